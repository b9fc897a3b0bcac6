import Derived.Test.YtjaakhjfpigdfaaQ
/-! end: the digest. -/
namespace Go.Proofs.Ytjaakhjfpigdfaa
open Go.RowKit
set_option linter.unusedVariables false
set_option linter.unusedSimpArgs false
/-- The digest of some bytes. -/
def sumL (l : By) : By := digL (stL (l ++ padL l.length))
theorem sumL_len (l : By) : (sumL l).length = 32 := by
  unfold sumL digL
  exact fillD_len _ 32
def copD (s : List W32) : Nat → By
  | 0 => List.replicate 32 0
  | i + 1 => (copD s i).take (4 * i) ++ wordBytes (BitVec.ofNat 64 (s.getD i 0).toNat) 4 1 ++ (copD s i).drop (4 * i + 4)
theorem copD_len (s : List W32) : ∀ i, i ≤ 8 → (copD s i).length = 32
  | 0, _ => by simp [copD]
  | i + 1, h => by
    have ih := copD_len s i (by omega)
    rw [copD, List.length_append, List.length_append, List.length_take, List.length_drop, length_wordBytes, ih]
    omega
theorem fillD_get (s : List W32) : ∀ i j, i ≤ 32 → j < 32 → (fillD s i).getD j 0 = if j < i then dByte s j else 0
  | 0, j, _, hj => by rw [fillD, List.getD_eq_getElem?_getD, List.getElem?_replicate, if_pos hj, if_neg (by omega)]; rfl
  | i + 1, j, hi, hj => by
    have ih := fillD_get s i j (by omega) hj
    have hl := fillD_len s i
    rw [fillD, List.getD_eq_getElem?_getD, List.getElem?_set]
    rw [List.getD_eq_getElem?_getD] at ih
    by_cases e : i = j
    · subst e; rw [if_pos rfl, if_pos (by omega), if_pos (by omega)]; rfl
    · rw [if_neg e, ih]
      by_cases h : j < i
      · rw [if_pos h, if_pos (by omega)]
      · rw [if_neg h, if_neg (by omega)]
theorem word_get (x : W32) (j : Nat) (hj : j < 4) : (wordBytes (BitVec.ofNat 64 x.toNat) 4 1).getD j 0 = BitVec.ofNat 8 (x.toNat / 256 ^ (3 - j)) := by
  have hx := x.isLt
  rw [List.getD_eq_getElem?_getD, List.getElem?_eq_getElem (by rw [length_wordBytes]; exact hj)]
  apply BitVec.eq_of_toNat_eq
  simp only [wordBytes, List.getElem_map, List.getElem_range, Option.getD_some]
  rw [byte_nat, BitVec.toNat_ofNat, BitVec.toNat_ofNat, Nat.mod_eq_of_lt (show x.toNat < 2 ^ 64 by omega)]
  have hw : which 4 1 j = 3 - j := by unfold which; split <;> omega
  rw [hw, Nat.pow_mul]
theorem copD_get (s : List W32) : ∀ i j, i ≤ 8 → j < 32 → (copD s i).getD j 0 = if j < 4 * i then dByte s j else 0
  | 0, j, _, hj => by rw [copD, List.getD_eq_getElem?_getD, List.getElem?_replicate, if_pos hj, if_neg (by omega)]; rfl
  | i + 1, j, hi, hj => by
    have ih := copD_get s i j (by omega) hj
    have hl := copD_len s i (by omega)
    have hwl := length_wordBytes (BitVec.ofNat 64 (s.getD i 0).toNat) 4 1
    rw [List.getD_eq_getElem?_getD] at ih
    rw [copD, List.getD_eq_getElem?_getD]
    by_cases h1 : j < 4 * i
    · rw [List.getElem?_append_left (by rw [List.length_append, List.length_take]; omega), List.getElem?_append_left (by rw [List.length_take]; omega), List.getElem?_take, if_pos h1, ih, if_pos h1, if_pos (by omega)]
    · by_cases h2 : j < 4 * i + 4
      · rw [List.getElem?_append_left (by rw [List.length_append, List.length_take]; omega), List.getElem?_append_right (by rw [List.length_take]; omega), List.length_take, if_pos (by omega)]
        have hw := word_get (s.getD i 0) (j - 4 * i) (by omega)
        rw [List.getD_eq_getElem?_getD] at hw
        rw [show min (4 * i) (copD s i).length = 4 * i by omega, hw]
        unfold dByte
        rw [show j / 4 = i by omega, show j % 4 = j - 4 * i by omega]
      · rw [List.getElem?_append_right (by rw [List.length_append, List.length_take]; omega), List.getElem?_drop, List.length_append, List.length_take, hwl, show 4 * i + 4 + (j - (min (4 * i) (copD s i).length + 4)) = j by omega, ih, if_neg h1, if_neg (by omega)]
theorem copD_all (s : List W32) : copD s 8 = digL s := by
  apply List.ext_getElem
  · rw [copD_len s 8 (by omega)]; exact (fillD_len s 32).symm
  · intro j h1 h2
    have hj : j < 32 := by rw [copD_len s 8 (by omega)] at h1; exact h1
    have e1 := copD_get s 8 j (by omega) hj
    have e2 := fillD_get s 32 j (by omega) hj
    rw [List.getD_eq_getElem?_getD, List.getElem?_eq_getElem h1] at e1
    rw [List.getD_eq_getElem?_getD, List.getElem?_eq_getElem (show j < (fillD s 32).length from h2)] at e2
    rw [if_pos (by omega)] at e1
    rw [if_pos (by omega)] at e2
    simp only [Option.getD_some] at e1 e2
    rw [e1]
    exact e2.symm
theorem hash_one (s : List W32) (a : Option Addr) (k c n : Nat) : (hashA s (.slice a k c) n).all (·.oneCell') = true := by
  unfold hashA
  rw [Array.all_append, U_one]; simp [Value.oneCell']
theorem wpList_load_cells {P : Program} {w : World} {ops : Array Oper} {rest : List Oper} {o : Oper} {a : Act} {Q : Exit → Act → World → Prop} (hgd : o.guard = none) (ty : TypeId) (x : Operand) (ho : o.op = .load ty x) (ad : Addr) (hx : a.eval x = .pointer (some ad)) (cs : Array Value) (d : TypeDesc) (hd : (match d with | .struct _ | .array _ _ => true | _ => false) = true) (hc : ∀ j v, cs[j]? = some v → w.cell? (ad.add j) = some v)
    (hu : P.underlying ty = some d) (hi : (P.info? ty).map (·.size) = some cs.size) (h : wpList P ops Q rest (a.put o.dst (.agg cs)) w) : wpList P ops Q (o :: rest) a w :=
  wpList_plain hgd fun _ hK => wp_load_cells ty x ho ad hx cs d hd hc hu hi (hK _ _ h)
set_option maxRecDepth 100000 in
theorem slice_dig (g k : Nat) (h : k < 32) (w : World) : (Instr.sliceAt 25 (.pointer (some ⟨g, 0, none⟩)) (some (.int .i64 (k : Int))) none none).run Try.prog w = .ok (.slice (some ⟨g, k, none⟩) (32 - k) (32 - k)) w := by
  have h0 : (0 : Int) ≤ (k : Int) := by omega
  have h1 : (k : Int) ≤ (Try.prog.arrayLen 25 : Int) := by rw [show Try.prog.arrayLen 25 = 32 by kernel_rfl]; omega
  rw [run_sliceAt_array_l w 25 _ (by kernel_rfl) .i64 k h0 h1]
  rw [show Try.prog.arrayLen 25 = 32 by kernel_rfl]
  have hne : ¬ 32 = k := by omega
  simp [go_sem, hne]
theorem V8_splice (D Wd : By) (k : Nat) : ((V8 D).toList.take k ++ (Wd.map fun b => Value.int .u8 (b.toNat : Int)) ++ (V8 D).toList.drop (k + (Wd.map fun b => Value.int .u8 (b.toNat : Int)).length)).toArray = V8 (D.take k ++ Wd ++ D.drop (k + Wd.length)) := by
  unfold V8
  simp [List.map_take, List.map_drop]
set_option maxRecDepth 100000 in
set_option maxHeartbeats 4000000 in
theorem end_any (g : Nat) (l : By) (w : World) (h : HashAt w g l) (hlen : l.length ≤ 140737488355000) : Calls Try.prog 73 #[.pointer (some ⟨g, 0, none⟩)] w fun e w' => e = .returned (.agg (V8 (sumL l))) ∧ Below w.heap.size w w' := by
  obtain ⟨lv, hc, hlv⟩ := h
  have hg : g < w.heap.size := (Array.getElem?_eq_some_iff.1 hc).1
  have hsl := stL_len l
  obtain ⟨la, lk, lc, hlf⟩ : ∃ a k c, lv = .slice a k c := by obtain ⟨a, c, e, _⟩ := hlv; exact ⟨a, _, c, e⟩
  have hsz : (Try.prog.info? 60).map (·.size) = some (hashA (stL l) lv l.length).size := by rw [hashA_size _ hsl]; kernel_rfl
  have hone : (hashA (stL l) lv l.length).all (·.oneCell') = true := by rw [hlf]; exact hash_one _ _ _ _ _
  have HSZ := Lib.hid hsz
  have HONE := Lib.hid hone
  have HC := Lib.hid hc
  have HS := Lib.hid hsl
  have HCS := Lib.hid (hashA_size (stL l) hsl lv l.length)
  have hZ := Lib.hid zeros32
  replace hlv := Lib.hid hlv
  obtain ⟨X, hX⟩ : ∃ X, hashA (stL l) lv l.length = X := ⟨_, rfl⟩
  rw [hX] at HSZ HONE HC HCS
  have HX := Lib.hid hX
  clear hsz hone hc hsl hX
  go_enter Try.func73, Try.ntmps73
  go_upto_region 2 with (first | ((with_reducible show wpList _ _ _ (⟨some 11, .load 60 (.tmp 10), _, _, _, _⟩ :: _) _ _); refine wpList_load_row rfl 60 (.tmp 10) rfl g rfl 60 X _ (heap_old _ trivial HC.out) Try.underlying60 rfl HSZ.out ?_) | ((with_reducible show wpList _ _ _ (⟨none, .store 60 (.tmp 3) (.tmp 11), _, _, _, _⟩ :: _) _ _); refine wpList_store_row rfl 60 (.tmp 3) (.tmp 11) rfl (w.heap.size + 1) X rfl rfl 60 _ (heap_new _ _ _ (by simp)) HSZ.out (by rw [HCS.out]; rfl) HONE.out ?_))
  generalize hW2 : (World.setRow _ _ _) = W2
  have b2 : Below w.heap.size w W2 := by rw [← hW2]; exact below_setRow _ _ (((Below.refl _ _).alloc (Nat.le_refl _) _).alloc (by simp) _) (by omega)
  have z2 : W2.heap[w.heap.size]? = some (.cells (V8 (List.replicate 32 0)) 25 (0, 0)) := by
    rw [← hW2, setRow_other _ _ _ _ (by omega), hZ.out]
    exact heap_old _ trivial (heap_new _ _ _ rfl)
  have c2 : W2.heap[w.heap.size + 1]? = some (.cells X 60 (0, 0)) := by rw [← hW2]; exact setRow_heap _ _ _ _ _ _ (heap_new _ _ _ (by simp))
  have hat : HashAt W2 (w.heap.size + 1) l := ⟨lv, by rw [HX.out]; exact c2, hlv.out.below b2⟩
  have q9 : W2.cell? ⟨g, 9, none⟩ = some (.int .u64 (l.length : Int)) := by
    rw [Joins.cell_of_block (below_heap b2 HC.out hg), ← HX.out]; exact hash_n _ HS.out _ _
  have hlt2 : w.heap.size + 1 < W2.heap.size := (Array.getElem?_eq_some_iff.1 c2).1
  have PD := Lib.hid (pad_any l.length (by omega) W2)
  replace hat := Lib.hid hat
  replace z2 := Lib.hid z2
  have B2 := Lib.hid b2
  have hlI : (0 : Int) ≤ (l.length : Int) := by omega
  clear hW2 c2 b2 HC HX HCS HONE HSZ hlv hlf
  simp only [Act.put]
  go_wp2_with fail
  refine PD.out.mono ?_
  rintro e W3 ⟨v, rfl, hown, hb3⟩
  have hE := EqN.own hown
  have hp3 : (padL l.length).length ≤ 128 := by unfold padL; rw [List.length_append, headB_len, tailB_len]; have : zN l.length < 64 := Nat.mod_lt _ (by decide); omega
  have TK := Lib.hid (take_any (w.heap.size + 1) l (padL l.length) v W3 (hat.out.below hb3) hE (by omega))
  replace z2 := Lib.hid (keepH hb3 z2.out)
  have B3 := Lib.hid (B2.out.trans (hb3.mono B2.out.size))
  have hlt3 := hb3.size
  clear PD hown hb3 hE hat q9 B2
  go_wp2_with fail
  refine TK.out.mono ?_
  rintro e W4 ⟨rfl, h4, hb4⟩
  obtain ⟨lv4, hc4, hlv4⟩ := h4
  have hsl := stL_len (l ++ padL l.length)
  obtain ⟨s, hs⟩ : ∃ s, stL (l ++ padL l.length) = s := ⟨_, rfl⟩
  rw [hs] at hc4 hsl
  have B4 : Below w.heap.size w W4 := B3.out.trans (hb4.to_below (by omega) (by omega))
  have z4 : W4.heap[w.heap.size]? = some (.cells (V8 (List.replicate 32 0)) 25 (0, 0)) := by rw [hb4.block _ (by omega) (by omega)]; exact z2.out
  have hlt4 : w.heap.size + 1 < W4.heap.size := (Array.getElem?_eq_some_iff.1 hc4).1
  have HS4 := Lib.hid hsl
  have HSS := Lib.hid hs
  replace B4 := Lib.hid B4
  replace z4 := Lib.hid z4
  replace hc4 := Lib.hid hc4
  clear TK hlv4 hb4 z2 B3 hs hsl hlt3 hlt2
  go_upto_region 5 with (first | ((with_reducible show wpList _ _ _ (⟨some 19, .load 31 (.tmp 18), _, _, _, _⟩ :: _) _ _); refine wpList_load_cells rfl 31 (.tmp 18) rfl ⟨w.heap.size + 1, 0, none⟩ rfl (U s) _ rfl (fun j v hv => by rw [add_zero_off, Joins.cell_of_block (heap_old _ trivial hc4.out)]; exact hash_word s HS4.out _ _ j v hv) Try.underlying31 (by rw [U_size, HS4.out]; kernel_rfl) ?_))
  rw [← hZ.out]
  have b5 : Below w.heap.size w (W4.alloc (.cells (V8 (List.replicate 32 0)) 25)) := B4.out.alloc B4.out.size _
  have z5 : (W4.alloc (.cells (V8 (List.replicate 32 0)) 25)).heap[w.heap.size]? = some (.cells (V8 (List.replicate 32 0)) 25 (0, 0)) := heap_old _ trivial z4.out
  have d5 : (W4.alloc (.cells (V8 (List.replicate 32 0)) 25)).heap[W4.heap.size]? = some (.cells (V8 (List.replicate 32 0)) 25 (0, 0)) := heap_new _ _ _ rfl
  obtain ⟨W5, hW5⟩ : ∃ W, W4.alloc (.cells (V8 (List.replicate 32 0)) 25) = W := ⟨_, rfl⟩
  rw [hW5] at b5 z5 d5 ⊢
  obtain ⟨g4, hg4⟩ : ∃ g, W4.heap.size = g := ⟨_, rfl⟩
  rw [hg4] at d5 hlt4 ⊢
  replace b5 := Lib.hid b5
  replace z5 := Lib.hid z5
  replace d5 := Lib.hid d5
  clear hW5 hg4 z4 hc4 B4
  go_loopg [20] 8 (fun gk iv wr => ∃ i : Nat, gk = 8 - i ∧ i ≤ 8 ∧ iv = .int .i64 (i : Int) ∧ wr.heap[w.heap.size]? = some (.cells (V8 (List.replicate 32 0)) 25) ∧ wr.heap[g4]? = some (.cells (V8 (copD s i)) 25) ∧ Below w.heap.size w wr)
  case atStart => exact ⟨0, rfl, by omega, rfl, z5.out, d5.out, b5.out⟩
  case round =>
    clear b5 z5 d5
    obtain ⟨i, rfl, hi, rfl, hz, hd, hbel⟩ := hrel
    by_cases hlt : i < 8
    · have hix := fun w => run_index_U s i hlt HS4.out w
      have hDl := copD_len s i hi
      have hstep : copD s (i + 1) = (copD s i).take (4 * i) ++ wordBytes (BitVec.ofNat 64 (s.getD i 0).toNat) 4 1 ++ (copD s i).drop (4 * i + 4) := rfl
      obtain ⟨D, hD⟩ : ∃ D, copD s i = D := ⟨_, rfl⟩
      rw [hD] at hd hDl hstep
      obtain ⟨x, hx⟩ : ∃ x, s.getD i 0 = x := ⟨_, rfl⟩
      rw [hx] at hix hstep
      have hxl := x.isLt
      obtain ⟨y, hy⟩ : ∃ y, BitVec.ofNat 64 x.toNat = y := ⟨_, rfl⟩
      have hyx : ((x.toNat : Nat) : Int) = (y.toNat : Int) := by rw [← hy, BitVec.toNat_ofNat]; omega
      rw [hy] at hstep
      have BY := Lib.hid (fun w => bytes_any y 4 32 1 w (Or.inr (Or.inr (Or.inl ⟨rfl, rfl⟩))) (Or.inl rfl))
      have hstp := Lib.hid hstep
      have HD := Lib.hid hd
      have HZ := Lib.hid hz
      have HB := Lib.hid hbel
      have HDL := Lib.hid hDl
      have HYX := Lib.hid hyx
      clear hstep hd hz hbel hDl hyx hD hx hy
      go_wp2_with fail
      rw [HYX.out]
      refine (BY.out _).mono ?_
      rintro e w' ⟨rfl, rfl⟩
      have hsl := fun w => slice_dig g4 (4 * i) (by omega) w
      rw [show ((4 * i : Nat) : Int) = 4 * (i : Int) by push_cast; rfl] at hsl
      have hwl := length_wordBytes y 4 1
      have hlt5 : g4 < wr.heap.size := (Array.getElem?_eq_some_iff.1 HD.out).1
      have hcp := run_copy_row (P := Try.prog) (wr.alloc (.cells ((wordBytes y 4 1).map fun b => Value.int .u8 (b.toNat : Int)).toArray 5)) 35 35 3 5 g4 (4 * i) (32 - 4 * i) (32 - 4 * i) ⟨wr.heap.size, 0, none⟩ 4 4
        (V8 D) 25 ((wordBytes y 4 1).map fun b => Value.int .u8 (b.toNat : Int)) Try.underlying35 (by kernel_rfl) (heap_old _ trivial HD.out) (by rw [List.length_map, hwl]; show 4 = min 4 (32 - 4 * i); omega) (by
          intro j v hj
          rw [add_zero_off]
          exact cell_new wr _ 5 (0, 0) j v (by simpa using hj)) (by rw [List.length_map, hwl, V8_size, HDL.out]; omega) (by
          intro v hv
          obtain ⟨b, _, rfl⟩ := List.mem_map.1 hv
          rfl)
      rw [V8_splice, hwl, setRow_old _ _ _ _ hlt5] at hcp
      rw [List.length_map, hwl] at hcp
      obtain ⟨D2, hD2⟩ : ∃ D2, D.take (4 * i) ++ wordBytes y 4 1 ++ D.drop (4 * i + 4) = D2 := ⟨_, rfl⟩
      rw [hD2] at hcp hstp
      obtain ⟨o5, ho5⟩ : ∃ o, Obj.cells ((wordBytes y 4 1).map fun b => Value.int .u8 (b.toNat : Int)).toArray 5 = o := ⟨_, rfl⟩
      rw [ho5] at hcp ⊢
      clear BY HYX hix hwl hD2 ho5
      go_wp2
      go_roundg (8 - (i + 1))
      case measure => omega
      case rel =>
        refine ⟨i + 1, rfl, by omega, by go_num, heap_old _ trivial ?_, heap_old _ trivial ?_, (below_setRow _ _ HB.out (by omega)).alloc (by have := HB.out.size; simpa [World.setRow] using this) _⟩
        · rw [setRow_other _ _ _ _ (by omega)]; exact HZ.out
        · rw [hstp.out]; exact setRow_heap _ _ _ _ _ _ HD.out
    · obtain rfl : i = 8 := by omega
      rw [copD_all] at hd
      have HE := Lib.hid (show digL s = sumL l by unfold sumL; rw [HSS.out])
      rw [HE.out] at hd
      have hZl := sumL_len l
      obtain ⟨Z, hZ2⟩ : ∃ Z, sumL l = Z := ⟨_, rfl⟩
      rw [hZ2] at hd hZl
      have hsz : (Try.prog.info? 25).map (·.size) = some (V8 Z).size := by rw [V8_size, hZl]; kernel_rfl
      have HZ2 := Lib.hid (show (V8 (List.replicate 32 0)).size = (V8 Z).size by rw [V8_size, V8_size, hZl]; rfl)
      have HSZ := Lib.hid hsz
      have HZZ := Lib.hid hZ2
      have HD := Lib.hid hd
      have HZ0 := Lib.hid hz
      clear hsz hZl hZ2 hZ HE hz hd
      go_upto_region 10 with (fail)
      refine wp_region_list ?_
      refine wpList_load_row rfl 25 (.tmp 4) rfl g4 rfl 25 (V8 Z) _ HD.out Try.underlying25 rfl HSZ.out ?_
      refine wpList_store_row rfl 25 (.tmp 2) (.tmp 36) rfl w.heap.size (V8 Z) rfl rfl 25 _ HZ0.out HSZ.out HZ2.out (V8_one _) ?_
      refine wpList_nil ?_
      obtain ⟨Wz, hWz⟩ : ∃ Wz, wr.setRow w.heap.size (V8 Z) = Wz := ⟨_, rfl⟩
      have gz : Wz.heap[w.heap.size]? = some (.cells (V8 Z) 25 (0, 0)) := by rw [← hWz]; exact setRow_heap _ _ _ _ _ _ HZ0.out
      have bz : Below w.heap.size w Wz := by rw [← hWz]; exact below_setRow _ _ hbel (Nat.le_refl _)
      rw [hWz]
      have hrv := run_loadVar_row (P := Try.prog) Wz w.heap.size 25 25 (V8 Z) (0, 0) _ gz Try.underlying25 rfl HSZ.out
      have HRV := Lib.hid hrv
      clear hWz hrv gz
      try simp only [Act.put, List.setIfInBounds_toArray, List.set_cons_zero, List.set_cons_succ]
      go_wp2
      have hrv := HRV.out
      exact bodyPost_ret (v := .agg (V8 Z)) (by simp [results, Try.results73, asAddr, hrv]) rfl ⟨by rw [HZZ.out], bz⟩
end Go.Proofs.Ytjaakhjfpigdfaa
