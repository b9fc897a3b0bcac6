import Derived.Test.YtjaakhjfpigdfaaE5
import Derived.Test.YtjaakhjfpigdfaaV6
/-! MacPieces. -/
namespace Go.Proofs.Ytjaakhjfpigdfaa
open Go.RowKit
set_option linter.unusedVariables false
set_option linter.unusedSimpArgs false
def pdPC (kv v9 rv : Value) (Z q : By) (wz : World) (B : Nat) (ps : List By) : Nat → Value → World → Prop
  | 0 => fun v w => v = .int .i64 0
  | 1 => fun v w => v = .bool true
  | 2 => fun v w => v = .bool true
  | 3 => fun v w => v = .agg (V8 Z)
  | 4 => fun v w => v = .agg (V8 Z)
  | 5 => fun v w => v = .bool true
  | 6 => fun v w => v = .bool true
  | 7 => fun v w => v = .bool true
  | 8 => fun v w => v = kv
  | 9 => fun v w => v = v9 ∧ OwnP wz w B v9 ps
  | 10 => fun v w => v = rv
  | 11 => fun v w => ∃ g, v = .slice (some ⟨g, 0, none⟩) 1 1 ∧ w.heap[g]? = some (.cells #[rv] 35 (0, 0))
  | 12 => fun v w => OwnP wz w B v (ps ++ [q])
  | 13 => fun v w => v = .agg (V8 Z)
  | 14 => fun v w => v = .agg (V8 Z)
  | 15 => fun v w => v = .bool true
  | 16 => fun v w => v = .bool true
  | _ => fun _ _ => True
theorem pdPC_mono (kv v9 rv : Value) (Z q : By) (wz : World) (B : Nat) (ps : List By) : ∀ q0 v w w', pdPC kv v9 rv Z q wz B ps q0 v w → Below w.heap.size w w' → pdPC kv v9 rv Z q wz B ps q0 v w'
  | 0, _, _, _, h, _ => h
  | 1, _, _, _, h, _ => h
  | 2, _, _, _, h, _ => h
  | 3, _, _, _, h, _ => h
  | 4, _, _, _, h, _ => h
  | 5, _, _, _, h, _ => h
  | 6, _, _, _, h, _ => h
  | 7, _, _, _, h, _ => h
  | 8, _, _, _, h, _ => h
  | 9, _, _, _, h, hb => ⟨h.1, h.2.below hb⟩
  | 10, _, _, _, h, _ => h
  | 11, _, _, _, h, hb => by obtain ⟨g, e, h2⟩ := h; exact ⟨g, e, keepH hb h2⟩
  | 12, _, _, _, h, hb => OwnP.below h hb
  | 13, _, _, _, h, _ => h
  | 14, _, _, _, h, _ => h
  | 15, _, _, _, h, _ => h
  | 16, _, _, _, h, _ => h
  | _ + 17, _, _, _, _, _ => trivial
set_option maxRecDepth 100000 in
set_option maxHeartbeats 8000000 in
theorem macPieces_true (k : By) (A0 : Option Addr) (c0 : Nat) (b : By) (B0 : Option Addr) (d0 : Nat) (cuts : By) (C0 : Option Addr) (e0 : Nat) (w : World) (hr : RdB w A0 k) (hc : k.length ≤ c0) (y0 : k.length * 1 ≤ 140737488351232) (hn : A0 = none → c0 = 0) (hrb : RdB w B0 b) (hd : b.length ≤ d0) (y1 : b.length * 1 ≤ 140737488351232) (hnb : B0 = none → d0 = 0) (hrc : RdB w C0 cuts) (hcc : cuts.length ≤ e0) (y2 : cuts.length * 1 ≤ 140737488351232) : Calls Try.prog 17 #[.slice A0 k.length c0, .slice B0 b.length d0, .slice C0 cuts.length e0] w fun e w' => e = .returned (.bool true) ∧ Below w.heap.size w w' := by
  obtain ⟨i35, hi35', hz35', hs35', hb35⟩ := info_parts info35
  have HI35 := Lib.hid hi35'
  have HZ35 := Lib.hid hz35'
  have HS35 := Lib.hid hs35'
  clear hi35' hz35' hs35' hb35
  have hz32 := zeros32
  have hzs32 : (V8 (List.replicate 32 0)).size = 32 := by rw [V8_size]; rfl
  obtain ⟨Zr, hZr⟩ : ∃ Z, V8 (List.replicate 32 0) = Z := ⟨_, rfl⟩
  rw [hZr] at hz32 hzs32
  have HZ32 := Lib.hid hz32
  have HZS32 := Lib.hid hzs32
  have hEk : EqN w k (.slice A0 k.length c0) := ⟨A0, c0, rfl, hc, hr, hn⟩
  have hEb : EqN w b (.slice B0 b.length d0) := ⟨B0, d0, rfl, hd, hrb, hnb⟩
  obtain ⟨kv0, hkv0⟩ : ∃ v, Value.slice A0 k.length c0 = v := ⟨_, rfl⟩
  obtain ⟨bv0, hbv0⟩ : ∃ v, Value.slice B0 b.length d0 = v := ⟨_, rfl⟩
  rw [hkv0] at hEk ⊢
  rw [hbv0] at hEb ⊢
  have AW := Lib.hid (awake4_any w)
  have HC1 := Lib.hid (fun (w' : World) (hb : Below w.heap.size w w') => cut4_any k kv0 w' (hEk.below hb))
  have HC2 := Lib.hid (fun (w' : World) (hb : Below w.heap.size w w') => cut4_any b bv0 w' (hEb.below hb))
  have HRC := Lib.hid hrc
  obtain ⟨nc, hnc⟩ : ∃ n, cuts.length = n := ⟨_, rfl⟩
  have HNC := Lib.hid hnc
  rw [hnc] at hcc y2 ⊢
  clear hz32 hzs32 hZr hkv0 hbv0 hEk hEb hr hc y0 hn hrb hd y1 hnb hrc hnc
  go_enter Try.func17, Try.ntmps17
  go_wp2_with fail
  refine AW.out.mono ?_
  rintro e w1 ⟨rfl, hb1⟩
  have B1 := Lib.hid hb1
  clear AW hb1
  go_wp2_with fail
  refine (HC1.out w1 B1.out).mono ?_
  rintro e w2 ⟨kv, rfl, hEk, rfl⟩
  have HKV1 := Lib.hid hEk
  clear hEk HC1
  go_wp2_with fail
  refine (HC2.out w1 B1.out).mono ?_
  rintro e w2 ⟨bv, rfl, hEb, rfl⟩
  have HBV1 := Lib.hid hEb
  clear hEb HC2
  have hkl : (k.take 2000).length ≤ 1000000 := by rw [List.length_take]; omega
  have hbl : (b.take 2000).length ≤ 2000 := by rw [List.length_take]; omega
  obtain ⟨k2, hk2⟩ : ∃ q, k.take 2000 = q := ⟨_, rfl⟩
  obtain ⟨b2, hb2⟩ : ∃ q, b.take 2000 = q := ⟨_, rfl⟩
  rw [hk2] at hkl HKV1
  rw [hb2] at hbl HBV1
  have HKL := Lib.hid hkl
  have S1 := Lib.hid (rmof_any k2 kv b2 bv w1 HKV1.out hkl HBV1.out (by omega))
  have hml := macL_len k2 b2
  obtain ⟨Z, hZ⟩ : ∃ Z, macL k2 b2 = Z := ⟨_, rfl⟩
  rw [hZ] at S1 hml
  have HZ1 := Lib.hid hZ
  have HSZ := Lib.hid (show (Try.prog.info? 25).map (·.size) = some (V8 Z).size by rw [V8_size, hml]; kernel_rfl)
  have HZZ := Lib.hid (show Zr.size = (V8 Z).size by rw [V8_size, hml]; exact HZS32.out)
  have HEQ := Lib.hid (fun w => eq_dig 25 Try.underlying25 Z Z hml hml w)
  rw [show (Z == Z) = true by simp] at HEQ
  obtain ⟨Bb, nb, cb, hbv⟩ := HBV1.out.form
  have hnb : b2.length = nb := by obtain ⟨_, _, e, _⟩ := HBV1.out; rw [hbv] at e; simp only [Value.slice.injEq] at e; exact e.2.1.symm
  subst hbv
  have HNB := Lib.hid hnb
  rw [hnb] at hbl
  clear hk2 hb2 hkl hml hZ hnb
  go_wp2_with fail
  refine S1.out.mono ?_
  rintro e w3 ⟨rfl, hb3⟩
  have B3 := Lib.hid hb3
  clear S1 hb3
  go_upto_region 5 with (first | ((with_reducible show wpList _ _ _ (⟨none, .store 25 (.tmp 7) (.tmp 22), _, _, _, _⟩ :: _) _ _); rw [← HZ32.out]; refine wpList_store_row rfl 25 (.tmp 7) (.tmp 22) rfl w3.heap.size (V8 Z) rfl rfl 25 _ (heap_new _ _ _ rfl) HSZ.out HZZ.out (V8_one _) ?_) | fail)
  generalize hW4 : (World.setRow _ _ _) = W4
  obtain ⟨g7, hg7⟩ : ∃ g, w3.heap.size = g := ⟨_, rfl⟩
  have b4 : Below w3.heap.size w3 W4 := by rw [← hW4]; exact below_setRow _ _ ((Below.refl _ _).alloc (Nat.le_refl _) _) (Nat.le_refl _)
  have Z7 := Lib.hid (show W4.heap[g7]? = some (.cells (V8 Z) 25 (0, 0)) by rw [← hW4, ← hg7]; exact setRow_heap _ _ _ _ _ _ (heap_new _ _ _ rfl))
  have B4 := Lib.hid (B3.out.trans (b4.mono B3.out.size))
  have NW := Lib.hid (mnew_any k2 kv W4 (HKV1.out.below B4.out) HKL.out)
  rw [hg7]
  clear hW4 hg7 b4 B3
  go_wp2_with fail
  refine NW.out.mono ?_
  rintro e w5 ⟨g, h, rfl, hm5, hb5, hgg, hhh⟩
  have HM5 := Lib.hid hm5.mf
  have B5 := Lib.hid hb5
  have hg3 : g < w5.heap.size := (Array.getElem?_eq_some_iff.1 hm5.1).1
  have hh3 : h < w5.heap.size := by obtain ⟨_, ⟨lv, hc, _⟩, _⟩ := hm5; exact (Array.getElem?_eq_some_iff.1 hc).1
  obtain ⟨BB, hBB⟩ : ∃ b, w5.heap.size = b := ⟨_, rfl⟩
  rw [hBB] at hg3 hh3
  have HBB := Lib.hid hBB
  have HE0 := Lib.hid (show EqN w1 (b2.drop 0) (.slice Bb (nb - 0) cb) from HBV1.out)
  clear hm5 hb5 hBB NW
  go_wp2
  go_loopg [1, 9, 10] 100 (fun gk v1 v9 v10 wr => ∃ (i p : Nat) (ps : List By) (A1 : Option Addr) (c1 B : Nat), gk = 100 - i ∧ i ≤ 100 ∧ i ≤ nc ∧ v10 = .int .i64 (i : Int) ∧ p ≤ nb ∧ v1 = .slice A1 (nb - p) c1 ∧ EqN w1 (b2.drop p) (.slice A1 (nb - p) c1) ∧ OwnP w1 wr BB v9 ps ∧ ps.flatten = b2.take p ∧ ps.length = i ∧ MacF wr g h k2 (b2.take p) B ∧ (∀ ga, v9.ownBlock = some ga → ga < B) ∧ Below W4.heap.size W4 wr ∧ BB ≤ wr.heap.size)
  case atStart => exact ⟨0, 0, [], Bb, cb, 0, rfl, by omega, by omega, rfl, by omega, rfl, HE0.out, OwnP.nil _ _ _, rfl, rfl, HM5.out, fun ga hga => (by cases hga), B5.out, by rw [← HBB.out]; exact Nat.le_refl _⟩
  case round =>
    clear HM5 B5 HE0
    obtain ⟨i, p, ps, A1, c1, B, rfl, hi, hi2, rfl, hp, rfl, hE, hown, hfl, hpl, hm, hvB, hbw, hbb⟩ := hrel
    by_cases hin : i < nc ∧ i < 100
    · obtain ⟨hlt, h100⟩ := hin
      have d1 : decide ((i : Int) < (nc : Int)) = true := by simp; omega
      have d2 : decide ((i : Int) < 100) = true := by simp; omega
      obtain ⟨ad, rfl, hcell⟩ := RdB.at' HRC.out i (by rw [HNC.out]; exact hlt)
      obtain ⟨x, hx⟩ : ∃ x, cuts[i]'(by rw [HNC.out]; exact hlt) = x := ⟨_, rfl⟩
      rw [hx] at hcell
      have q0 : wr.cell? (ad.add i) = some (.int .u8 (x.toNat : Int)) := by
        have hb := B1.out.trans ((B4.out.trans (hbw.mono B4.out.size)).mono B1.out.size)
        exact (hb.cell (World.block_lt_of_cell? _ _ hcell)).trans hcell
      have hxl := x.isLt
      obtain ⟨q, hq⟩ : ∃ q, x.toNat = q := ⟨_, rfl⟩
      obtain ⟨r, hrr⟩ : ∃ r, nb - p = r := ⟨_, rfl⟩
      rw [hq] at q0 hxl
      rw [hrr] at hE ⊢
      obtain ⟨m, hm2⟩ : ∃ m, min q r = m := ⟨_, rfl⟩
      have hmr : m ≤ r := by omega
      have hdl : (b2.drop p).length = r := by rw [List.length_drop, HNB.out]; exact hrr
      have hc1 : r ≤ c1 := by obtain ⟨_, _, e, hc, _⟩ := hE; simp only [Value.slice.injEq] at e; rw [hdl] at hc; omega
      have hmc : m ≤ c1 := by omega
      have hE' := hE
      rw [← hdl] at hE'
      have hT : EqN w1 ((b2.drop p).take m) (.slice A1 m c1) := hE'.take m (by omega)
      have hD : EqN w1 (b2.drop (p + m)) (.slice (if c1 = m then A1 else A1.map fun x => x.add m) (nb - (p + m)) (c1 - m)) := by
        have h := hE'.cut m (r - m) (by omega)
        rw [List.drop_drop, List.take_of_length_le (by rw [List.length_drop, HNB.out]; omega), show r - m = nb - (p + m) by omega] at h
        exact h
      have hrt := run_take A1 r c1 m hmc
      have hrf := run_from A1 r c1 m hmr hc1
      obtain ⟨A2, hA2⟩ : ∃ A, (if c1 = m then A1 else A1.map fun x => x.add m) = A := ⟨_, rfl⟩
      obtain ⟨c2, hc2⟩ : ∃ c, c1 - m = c := ⟨_, rfl⟩
      rw [hA2, hc2] at hD hrf
      rw [show r - m = nb - (p + m) by omega] at hrf
      have hft : (ps ++ [(b2.drop p).take m]).flatten = b2.take (p + m) := by
        rw [List.flatten_append, hfl, List.take_add]; simp
      have hmt : b2.take (p + m) = b2.take p ++ (b2.drop p).take m := List.take_add
      have HMT := Lib.hid hmt
      have HFT := Lib.hid hft
      have HT := Lib.hid hT
      have HD := Lib.hid hD
      have HO := Lib.hid hown
      have HM := Lib.hid hm
      have HVB := Lib.hid hvB
      have HBW := Lib.hid hbw
      have hpm : p + m ≤ nb := by omega
      have HPL := Lib.hid hpl
      have hr2 : r ≤ 2000 := by omega
      clear hx hcell hq hrr hdl hE hE' hT hD hft hmt hown hm hvB hbw hA2 hc2 hfl hpl
      obtain ⟨pc, hpc⟩ : ∃ z, (b2.drop p).take m = z := ⟨_, rfl⟩
      have hpcl : pc.length ≤ 2000 := by rw [← hpc, List.length_take, List.length_drop, HNB.out]; omega
      have hpl1 : (b2.take p).length ≤ 2000 := by rw [List.length_take, HNB.out]; omega
      obtain ⟨P1, hP1⟩ : ∃ z, b2.take p = z := ⟨_, rfl⟩
      rw [hpc] at HMT HFT HT
      rw [hP1] at HMT HM hpl1
      have HPP := Lib.hid (show P1.length + pc.length ≤ 4000 by omega)
      clear hpc hP1 hpcl hpl1
      by_cases hqr : r < q
      · obtain rfl : r = m := by omega
        have hqI : (r : Int) < (q : Int) := by omega
        clear hm2
        go_wp2_with (first | (at_builtin; refine wpList_append_row1G rfl (.tmp 43) (.tmp 47) rfl BB u9 ps rfl (HO.out.below (below_alloc1 _ _)) wr.heap.size pc (.slice A1 r c1) rfl (cell_new wr _ 35 (0, 0) 0 _ rfl) HT.out (by rw [HPL.out]; omega) (by simp; omega) ?_; intro v9 w7 hown hb7 hgr; have HM7 := Lib.hid ((HM.out.below (below_alloc1 _ _)).grownP (HO.out.below (below_alloc1 _ _)) hg3 hh3 HVB.out hgr); have HO7 := Lib.hid hown; have HB7 := Lib.hid (show Below BB wr w7 from ((below_alloc1 wr _).mono hbb).trans hb7); clear hown hb7 hgr) | fail)
        have OL7 := Lib.hid HO7.out.lt
        have hs7 := HB7.out.size
        have HW7 := Lib.hid (show Below W4.heap.size W4 w7 from HBW.out.trans (HB7.out.mono (by omega)))
        have HT7 := Lib.hid (HT.out.below (B4.out.trans (HW7.out.mono B4.out.size)))
        have WR := Lib.hid (mwrite_anyF g h k2 P1 pc (.slice A1 r c1) w7 HM7.out.mac HT7.out (by have := HPP.out; omega))
        clear HM7 HO HB7 HT7 HBW HM HVB q0
        refine WR.out.mono ?_
        rintro e w8 ⟨rfl, hmf, hbs⟩
        have HMF := Lib.hid hmf
        have HO8 := Lib.hid (HO7.out.bes hh3 hbs)
        have HBW8 := Lib.hid (HW7.out.trans (hbs.to_below hhh HW7.out.size))
        have hbb8 : BB ≤ w8.heap.size := Nat.le_trans (Nat.le_trans hbb hs7) hbs.size
        clear WR hmf hbs HO7 HW7
        go_wp2
        go_roundg (100 - (i + 1))
        case measure => omega
        case rel => exact ⟨i + 1, p + r, ps ++ [pc], A2, c2, w7.heap.size, rfl, by omega, by omega, by go_num, hpm, rfl, HD.out, HO8.out, HFT.out, by rw [List.length_append, HPL.out]; rfl, by rw [HMT.out]; exact HMF.out, OL7.out, HBW8.out, hbb8⟩
      · obtain rfl : q = m := by omega
        have hqI : ¬ (r : Int) < (q : Int) := by omega
        clear hm2
        go_wp2_with (first | (at_builtin; refine wpList_append_row1G rfl (.tmp 43) (.tmp 47) rfl BB u9 ps rfl (HO.out.below (below_alloc1 _ _)) wr.heap.size pc (.slice A1 q c1) rfl (cell_new wr _ 35 (0, 0) 0 _ rfl) HT.out (by rw [HPL.out]; omega) (by simp; omega) ?_; intro v9 w7 hown hb7 hgr; have HM7 := Lib.hid ((HM.out.below (below_alloc1 _ _)).grownP (HO.out.below (below_alloc1 _ _)) hg3 hh3 HVB.out hgr); have HO7 := Lib.hid hown; have HB7 := Lib.hid (show Below BB wr w7 from ((below_alloc1 wr _).mono hbb).trans hb7); clear hown hb7 hgr) | fail)
        have OL7 := Lib.hid HO7.out.lt
        have hs7 := HB7.out.size
        have HW7 := Lib.hid (show Below W4.heap.size W4 w7 from HBW.out.trans (HB7.out.mono (by omega)))
        have HT7 := Lib.hid (HT.out.below (B4.out.trans (HW7.out.mono B4.out.size)))
        have WR := Lib.hid (mwrite_anyF g h k2 P1 pc (.slice A1 q c1) w7 HM7.out.mac HT7.out (by have := HPP.out; omega))
        clear HM7 HO HB7 HT7 HBW HM HVB q0
        refine WR.out.mono ?_
        rintro e w8 ⟨rfl, hmf, hbs⟩
        have HMF := Lib.hid hmf
        have HO8 := Lib.hid (HO7.out.bes hh3 hbs)
        have HBW8 := Lib.hid (HW7.out.trans (hbs.to_below hhh HW7.out.size))
        have hbb8 : BB ≤ w8.heap.size := Nat.le_trans (Nat.le_trans hbb hs7) hbs.size
        clear WR hmf hbs HO7 HW7
        go_wp2
        go_roundg (100 - (i + 1))
        case measure => omega
        case rel => exact ⟨i + 1, p + q, ps ++ [pc], A2, c2, w7.heap.size, rfl, by omega, by omega, by go_num, hpm, rfl, HD.out, HO8.out, HFT.out, by rw [List.length_append, HPL.out]; rfl, by rw [HMT.out]; exact HMF.out, OL7.out, HBW8.out, hbb8⟩
    · have dd : (¬ i < nc ∧ decide ((i : Int) < (nc : Int)) = false) ∨ (i < nc ∧ ¬ i < 100 ∧ decide ((i : Int) < (nc : Int)) = true ∧ decide ((i : Int) < 100) = false) := by
        simp only [decide_eq_true_eq, decide_eq_false_iff_not]; omega
      clear hin
      have hw1B : w1.heap.size ≤ BB := by have := B4.out.size; omega
      have hg7B : g7 < BB := by have := (Array.getElem?_eq_some_iff.1 Z7.out).1; omega
      obtain ⟨q, hq⟩ : ∃ q, b2.drop p = q := ⟨_, rfl⟩
      obtain ⟨P1, hP1⟩ : ∃ q, b2.take p = q := ⟨_, rfl⟩
      have hPq : P1 ++ q = b2 := by rw [← hP1, ← hq]; exact List.take_append_drop _ _
      rw [hq] at hE
      rw [hP1] at hm hfl
      have HFL := Lib.hid (show (ps ++ [q]).flatten = b2 by rw [List.flatten_append, hfl]; simpa using hPq)
      have HBL2 := Lib.hid (show b2.length ≤ 1000000 by rw [HNB.out]; omega)
      have hPql : P1.length + q.length ≤ 2000 := by have := congrArg List.length hPq; rw [List.length_append, HNB.out] at this; omega
      have HRV0 := Lib.hid hE
      have HFI0 : Instr.fill (fun i => some (i * 1, 1)) ((Array.range (1 * 1)).map ((Value.slice none 0 0).cells[· % (Value.slice none 0 0).cells.size]!)) [(0, .slice A1 (nb - p) c1)] = some #[.slice A1 (nb - p) c1] := by kernel_rfl
      obtain ⟨rv, hrv⟩ : ∃ v, Value.slice A1 (nb - p) c1 = v := ⟨_, rfl⟩
      rw [hrv] at HRV0 HFI0 ⊢
      have HFI := Lib.hid HFI0
      obtain ⟨v9, hv9⟩ : ∃ v, u9 = v := ⟨_, rfl⟩
      rw [hv9] at hown hvB ⊢
      have HWr := Lib.hid (show Below w1.heap.size w1 wr from B4.out.trans (hbw.mono B4.out.size))
      have WR := Lib.hid (mwrite_any g h k2 P1 q rv wr hm.mac (HRV0.out.below HWr.out) (by omega))
      rw [hPq] at WR
      have HO := Lib.hid hown
      have HBW := Lib.hid hbw
      have HPL := Lib.hid (show ps.length ≤ 100 by omega)
      clear hq hP1 hPq hE hm hfl HFI0 hrv hv9 hvB hown hbw hpl
      rcases dd with ⟨hlt, d1⟩ | ⟨hlt, h100, d1, d2⟩
      all_goals
        go_wp2_with fail
        refine WR.out.mono ?_
        rintro e w8 ⟨rfl, hm8, hbs⟩
        have HO8 := Lib.hid (HO.out.bes hh3 hbs)
        have HBW8 := Lib.hid (HBW.out.trans (hbs.to_below hhh HBW.out.size))
        have hbb8 : BB ≤ w8.heap.size := Nat.le_trans hbb hbs.size
        have SM := Lib.hid (mmsum_any g h k2 b2 w8 hm8 (by rw [HNB.out]; omega))
        rw [HZ1.out] at SM
        clear WR hm8 hbs HO HBW hbb
        go_wp2_with fail
        refine SM.out.mono ?_
        rintro e w9 ⟨rfl, hb9⟩
        have HO9 := Lib.hid (HO8.out.below hb9)
        have HVN := Lib.hid HO9.out.lt
        have HBW9 := Lib.hid (HBW8.out.trans (hb9.mono HBW8.out.size))
        have hbb9 : BB ≤ w9.heap.size := Nat.le_trans hbb8 hb9.size
        clear SM hb9 HO8 HBW8 hbb8
        go_upto_region 18 with (first | ((with_reducible show wpList _ _ _ (⟨none, .store 25 (.tmp 12) (.tmp 65), _, _, _, _⟩ :: _) _ _); rw [← HZ32.out]; refine wpList_store_row rfl 25 (.tmp 12) (.tmp 65) rfl w9.heap.size (V8 Z) rfl rfl 25 _ (heap_new _ _ _ rfl) HSZ.out HZZ.out (V8_one _) ?_) | fail)
        generalize hW12 : (World.setRow _ _ _) = W12
        obtain ⟨g12, hg12⟩ : ∃ g, w9.heap.size = g := ⟨_, rfl⟩
        have b12 : Below w9.heap.size w9 W12 := by rw [← hW12]; exact below_setRow _ _ ((Below.refl _ _).alloc (Nat.le_refl _) _) (Nat.le_refl _)
        have Z12 := Lib.hid (show W12.heap[g12]? = some (.cells (V8 Z) 25 (0, 0)) by rw [← hW12, ← hg12]; exact setRow_heap _ _ _ _ _ _ (heap_new _ _ _ rfl))
        have HOP := Lib.hid (HO9.out.below b12)
        have HBW12 := Lib.hid (HBW9.out.trans (b12.mono HBW9.out.size))
        have Z712 := Lib.hid (below_heap HBW12.out Z7.out (Array.getElem?_eq_some_iff.1 Z7.out).1)
        have hbbS : BB ≤ W12.heap.size := Nat.le_trans hbb9 b12.size
        have HW12 := Lib.hid (show Below w1.heap.size w1 W12 from B4.out.trans (HBW12.out.mono B4.out.size))
        have HWW := Lib.hid (fun (w' : World) (hb : Below BB W12 w') => (show Below w1.heap.size w1 w' from HW12.out.trans (hb.mono hw1B)))
        have HKVf := Lib.hid (fun (w' : World) (hb : Below BB W12 w') => HKV1.out.below (HWW.out w' hb))
        have HRV := HRV0
        rw [hg12] at HVN ⊢
        clear hW12 hg12 b12 HO9 HBW9 hbb9
        obtain ⟨wz, hwz⟩ : ∃ z, w1 = z := ⟨_, rfl⟩
        rw [hwz] at HOP HRV HWW
        refine wp_region_came (w0 := _) 17 [some 67, some 68, some 69, some 70, some 71, some 72, some 73, some 74, some 75, some 76, some 77, some 78, some 79, some 80, some 81, some 82, some 83] (by kernel_rfl) (by kernel_rfl) (by kernel_rfl) (by kernel_rfl) (of_decide_eq_true (by kernel_rfl)) (by kernel_rfl) (fun L w' => (L 12 = false → Below W12.heap.size W12 w') ∧ Below BB W12 w' ∧ w'.heap[g12]? = some (.cells (V8 Z) 25 (0, 0)) ∧ (L 12 = true → L 9 = true)) ⟨fun _ => (Below.refl _ _).drew, (Below.refl _ _).drew, Z12.out, fun h => by cases h⟩ (pdPC kv v9 rv Z q wz BB ps) (fun i k => i == 12 && (k == 9 || k == 11)) (by kernel_rfl) ?_ ?_
        · intro ix hix o w1 b L ho hL hneed hbel hv hstood hsize K hK0
          have hK1 : ix ≠ 12 → ∀ u w', pdPC kv v9 rv Z q wz BB ps ix u w' → Below w1.heap.size w1 w' → K (b.put o.dst u) w' := fun hx u w' h hb => hK0 u w' h (fun k v _ _ _ h2 => pdPC_mono kv v9 rv Z q wz BB ps k v _ _ h2 hb) ⟨fun h12 => by rw [upd_other L true (Ne.symm hx)] at h12; exact (hbel.1 h12).trans (hb.mono (hbel.1 h12).size), hbel.2.1.trans (hb.mono (Nat.le_trans hbbS hbel.2.1.size)), keepH hb hbel.2.2.1, fun h12 => by rw [upd_other L true (Ne.symm hx)] at h12; exact upd_keep (hbel.2.2.2 h12)⟩
          have hc : ix = 0 ∨ ix = 1 ∨ ix = 2 ∨ ix = 3 ∨ ix = 4 ∨ ix = 5 ∨ ix = 6 ∨ ix = 7 ∨ ix = 8 ∨ ix = 9 ∨ ix = 10 ∨ ix = 11 ∨ ix = 12 ∨ ix = 13 ∨ ix = 14 ∨ ix = 15 ∨ ix = 16 := by omega
          rcases hc with rfl | rfl | rfl | rfl | rfl | rfl | rfl | rfl | rfl | rfl | rfl | rfl | rfl | rfl | rfl | rfl | rfl
          · obtain rfl : (⟨some 67, .move (Operand.tmp 13), _, _, _, _⟩ : Oper) = o := Option.some.inj ho
            have hK := hK1 (by decide)
            refine ask_plain rfl ?_
            have e : b.eval (.tmp 13) = .int .i64 0 := (hstood 13 (by kernel_rfl)).trans rfl
            exact wp_val _ rfl (hK _ _ e (Below.refl _ _))
          · obtain rfl : (⟨some 68, .binOp BinOp.eql 44 (Operand.tmp 67) (Operand.const (Value.int IntKind.i64 0)) 44, _, _, _, _⟩ : Oper) = o := Option.some.inj ho
            have hK := hK1 (by decide)
            refine ask_plain rfl ?_
            have e0 : b.eval (.tmp 67) = .int .i64 0 := hv 0 67 (by kernel_rfl) (by kernel_rfl) (of_decide_eq_true (by kernel_rfl))
            exact wp_val (.bool true) (by simp only [execOp, e0]; rfl) (hK _ _ rfl (Below.refl _ _))
          · obtain rfl : (⟨some 69, .move (Operand.tmp 68), _, _, _, _⟩ : Oper) = o := Option.some.inj ho
            have hK := hK1 (by decide)
            refine ask_plain rfl ?_
            have e : b.eval (.tmp 68) = .bool true := hv 1 68 (by kernel_rfl) (by kernel_rfl) (of_decide_eq_true (by kernel_rfl))
            exact wp_val _ rfl (hK _ _ e (Below.refl _ _))
          · obtain rfl : (⟨some 70, .load 25 (Operand.tmp 12), _, _, _, _⟩ : Oper) = o := Option.some.inj ho
            have hK := hK1 (by decide)
            have hgd := hv 2 69 (by kernel_rfl) (by kernel_rfl) (of_decide_eq_true (by kernel_rfl))
            refine ask_yes 2 69 true rfl (by kernel_rfl) (by rw [hsize]; exact (of_decide_eq_true (by kernel_rfl))) hgd ?_
            have e1 : b.eval (.tmp 12) = .pointer (some ⟨g12, 0, none⟩) := (hstood 12 (by kernel_rfl)).trans rfl
            exact wp_load_cells 25 (.tmp 12) rfl ⟨g12, 0, none⟩ e1 (V8 Z) _ rfl (fun j v hj => by rw [add_zero_off, Joins.cell_of_block (hbel.2.2.1)]; exact hj) Try.underlying25 HSZ.out (hK _ _ rfl (Below.refl _ _))
          · obtain rfl : (⟨some 71, .load 25 (Operand.tmp 7), _, _, _, _⟩ : Oper) = o := Option.some.inj ho
            have hK := hK1 (by decide)
            have hgd := hv 2 69 (by kernel_rfl) (by kernel_rfl) (of_decide_eq_true (by kernel_rfl))
            refine ask_yes 2 69 true rfl (by kernel_rfl) (by rw [hsize]; exact (of_decide_eq_true (by kernel_rfl))) hgd ?_
            have e1 : b.eval (.tmp 7) = .pointer (some ⟨g7, 0, none⟩) := (hstood 7 (by kernel_rfl)).trans rfl
            exact wp_load_cells 25 (.tmp 7) rfl ⟨g7, 0, none⟩ e1 (V8 Z) _ rfl (fun j v hj => by rw [add_zero_off, Joins.cell_of_block ((hbel.2.1.block g7 hg7B).trans Z712.out)]; exact hj) Try.underlying25 HSZ.out (hK _ _ rfl (Below.refl _ _))
          · obtain rfl : (⟨some 72, .binOp BinOp.eql 25 (Operand.tmp 70) (Operand.tmp 71) 25, _, _, _, _⟩ : Oper) = o := Option.some.inj ho
            have hK := hK1 (by decide)
            have hgd := hv 2 69 (by kernel_rfl) (by kernel_rfl) (of_decide_eq_true (by kernel_rfl))
            refine ask_yes 2 69 true rfl (by kernel_rfl) (by rw [hsize]; exact (of_decide_eq_true (by kernel_rfl))) hgd ?_
            have e0 : b.eval (.tmp 70) = .agg (V8 Z) := hv 3 70 (by kernel_rfl) (by kernel_rfl) (of_decide_eq_true (by kernel_rfl))
            have e1 : b.eval (.tmp 71) = .agg (V8 Z) := hv 4 71 (by kernel_rfl) (by kernel_rfl) (of_decide_eq_true (by kernel_rfl))
            exact wp_val (.bool true) (by simp only [execOp, e0, e1]; simp [go_sem, HEQ.out]) (hK _ _ rfl (Below.refl _ _))
          · obtain rfl : (⟨some 73, .pick (Operand.tmp 69) (Operand.tmp 72) (Operand.const (Value.bool false)), _, _, _, _⟩ : Oper) = o := Option.some.inj ho
            have hK := hK1 (by decide)
            refine ask_plain rfl ?_
            have e0 : b.eval (.tmp 69) = .bool true := hv 2 69 (by kernel_rfl) (by kernel_rfl) (of_decide_eq_true (by kernel_rfl))
            have e1 : b.eval (.tmp 72) = .bool true := hv 5 72 (by kernel_rfl) (by kernel_rfl) (of_decide_eq_true (by kernel_rfl))
            exact wp_val (.bool true) (by simp only [execOp, e0, e1]; rfl) (hK _ _ rfl (Below.refl _ _))
          · obtain rfl : (⟨some 74, .move (Operand.tmp 73), _, _, _, _⟩ : Oper) = o := Option.some.inj ho
            have hK := hK1 (by decide)
            refine ask_plain rfl ?_
            have e : b.eval (.tmp 73) = .bool true := hv 6 73 (by kernel_rfl) (by kernel_rfl) (of_decide_eq_true (by kernel_rfl))
            exact wp_val _ rfl (hK _ _ e (Below.refl _ _))
          · obtain rfl : (⟨some 75, .move (Operand.tmp 0), _, _, _, _⟩ : Oper) = o := Option.some.inj ho
            have hK := hK1 (by decide)
            have hgd := hv 7 74 (by kernel_rfl) (by kernel_rfl) (of_decide_eq_true (by kernel_rfl))
            refine ask_yes 7 74 true rfl (by kernel_rfl) (by rw [hsize]; exact (of_decide_eq_true (by kernel_rfl))) hgd ?_
            have e : b.eval (.tmp 0) = kv := (hstood 0 (by kernel_rfl)).trans rfl
            exact wp_val _ rfl (hK _ _ e (Below.refl _ _))
          · obtain rfl : (⟨some 76, .move (Operand.tmp 9), _, _, _, _⟩ : Oper) = o := Option.some.inj ho
            have hK := hK1 (by decide)
            have hgd := hv 7 74 (by kernel_rfl) (by kernel_rfl) (of_decide_eq_true (by kernel_rfl))
            refine ask_yes 7 74 true rfl (by kernel_rfl) (by rw [hsize]; exact (of_decide_eq_true (by kernel_rfl))) hgd ?_
            have h12 : L 12 = false := by
              cases hq : L 12 with
              | false => rfl
              | true => have := hbel.2.2.2 hq; rw [hL] at this; cases this
            have e : b.eval (.tmp 9) = v9 := (hstood 9 (by kernel_rfl)).trans rfl
            exact wp_val _ rfl (hK _ _ ⟨e, HOP.out.below (hbel.1 h12)⟩ (Below.refl _ _))
          · obtain rfl : (⟨some 77, .move (Operand.tmp 1), _, _, _, _⟩ : Oper) = o := Option.some.inj ho
            have hK := hK1 (by decide)
            have hgd := hv 7 74 (by kernel_rfl) (by kernel_rfl) (of_decide_eq_true (by kernel_rfl))
            refine ask_yes 7 74 true rfl (by kernel_rfl) (by rw [hsize]; exact (of_decide_eq_true (by kernel_rfl))) hgd ?_
            have e : b.eval (.tmp 1) = rv := (hstood 1 (by kernel_rfl)).trans rfl
            exact wp_val _ rfl (hK _ _ e (Below.refl _ _))
          · obtain rfl : (⟨some 78, .buildSlice 22 1 #[(0, (Operand.tmp 77))], _, _, _, _⟩ : Oper) = o := Option.some.inj ho
            have hK := hK1 (by decide)
            have hgd := hv 7 74 (by kernel_rfl) (by kernel_rfl) (of_decide_eq_true (by kernel_rfl))
            refine ask_yes 7 74 true rfl (by kernel_rfl) (by rw [hsize]; exact (of_decide_eq_true (by kernel_rfl))) hgd ?_
            have e2 : b.eval (.tmp 77) = rv := hv 10 77 (by kernel_rfl) (by kernel_rfl) (of_decide_eq_true (by kernel_rfl))
            refine wp_buildSlice 22 35 1 _ rfl #[rv] i35 (.slice none 0 0) Try.underlying22 HI35.out HZ35.out (by rw [HS35.out]; decide) (by rw [HS35.out]; decide) (by rw [HS35.out]; simp only [List.map_toArray, List.map_cons, List.map_nil, e2]; exact HFI.out) (hK _ _ ⟨_, rfl, heap_new _ _ _ rfl⟩ (below_alloc1 _ _))
          · obtain rfl : (⟨some 79, .call { callee := (Callee.builtin Builtin.append), args := #[(Operand.tmp 76), (Operand.tmp 78)], argTypes := #[22, 22] }, _, _, _, _⟩ : Oper) = o := Option.some.inj ho
            have hgd := hv 7 74 (by kernel_rfl) (by kernel_rfl) (of_decide_eq_true (by kernel_rfl))
            refine ask_yes 7 74 true rfl (by kernel_rfl) (by rw [hsize]; exact (of_decide_eq_true (by kernel_rfl))) hgd ?_
            obtain ⟨e1, hown⟩ : b.eval (.tmp 76) = v9 ∧ OwnP wz w1 BB v9 ps := hv 9 76 (by kernel_rfl) (by kernel_rfl) (of_decide_eq_true (by kernel_rfl))
            obtain ⟨g1, e2, hz1⟩ : ∃ g, b.eval (.tmp 78) = .slice (some ⟨g, 0, none⟩) 1 1 ∧ w1.heap[g]? = some (.cells #[rv] 35 (0, 0)) := hv 11 78 (by kernel_rfl) (by kernel_rfl) (of_decide_eq_true (by kernel_rfl))
            refine wp_append_row1G (.tmp 76) (.tmp 78) rfl BB v9 ps e1 hown g1 q rv e2 (by rw [Joins.cell_of_block hz1]; rfl) HRV.out (by have := HPL.out; omega) (Nat.le_trans hbbS hbel.2.1.size) ?_
            intro v' w' hown' hb' hgr
            have h9 : L 9 = true := hneed 9 (by kernel_rfl)
            refine hK0 _ _ hown' (fun k v hk hnd hgo h => ?_) ⟨fun h => (by rw [upd_same] at h; cases h), hbel.2.1.trans hb', (by rw [hgr.block g12 (Array.getElem?_eq_some_iff.1 hbel.2.2.1).1 (fun e => by have := HVN.out g12 e.symm; omega)]; exact hbel.2.2.1), fun _ => upd_keep h9⟩
            match k, h with
            | 0, h => exact h
            | 1, h => exact h
            | 2, h => exact h
            | 3, h => exact h
            | 4, h => exact h
            | 5, h => exact h
            | 6, h => exact h
            | 7, h => exact h
            | 8, h => exact h
            | 9, h => cases hgo
            | 10, h => exact h
            | 11, h => cases hgo
            | 12, h => exact absurd rfl hk
            | 13, h => exact h
            | 14, h => exact h
            | 15, h => exact h
            | 16, h => exact h
            | _ + 17, _ => trivial
          · obtain rfl : (⟨some 80, .call { callee := (Callee.value (Operand.func 46)), args := #[(Operand.tmp 75), (Operand.tmp 79)], argTypes := #[35, 22] }, _, _, _, _⟩ : Oper) = o := Option.some.inj ho
            have hK := hK1 (by decide)
            have hgd := hv 7 74 (by kernel_rfl) (by kernel_rfl) (of_decide_eq_true (by kernel_rfl))
            refine ask_yes 7 74 true rfl (by kernel_rfl) (by rw [hsize]; exact (of_decide_eq_true (by kernel_rfl))) hgd ?_
            have e1 : b.eval (.tmp 75) = kv := hv 8 75 (by kernel_rfl) (by kernel_rfl) (of_decide_eq_true (by kernel_rfl))
            have hown : OwnP wz w1 BB (b.eval (.tmp 79)) (ps ++ [q]) := hv 12 79 (by kernel_rfl) (by kernel_rfl) (of_decide_eq_true (by kernel_rfl))
            obtain ⟨A9, c9, e9, hc9, hr9⟩ := hown.rd (HWW.out w1 hbel.2.1)
            obtain ⟨a9, hA9⟩ : ∃ a, A9 = some a := by
              obtain ⟨a, _, e, _⟩ := hr9.at' 0 (by simp)
              exact ⟨a, e⟩
            rw [hA9] at hr9 e9
            have hcall := msum_any k2 kv (ps ++ [q]) a9 c9 w1 (HKVf.out w1 hbel.2.1) HKL.out hr9 hc9 (by rw [List.length_append]; have := HPL.out; simp; omega) (by rw [HFL.out]; exact HBL2.out)
            rw [HFL.out, HZ1.out, ← e9] at hcall
            refine wp_call_fn 46 #[.tmp 75, .tmp 79] #[35, 22] rfl Try.f46 _ Try.func46 (by kernel_rfl) rfl #[kv, b.eval (.tmp 79)] (by simp [e1]) (hcall.mono ?_)
            rintro e w2 ⟨rfl, hb2⟩
            exact ⟨_, rfl, hK _ _ rfl hb2⟩
          · obtain rfl : (⟨some 81, .load 25 (Operand.tmp 7), _, _, _, _⟩ : Oper) = o := Option.some.inj ho
            have hK := hK1 (by decide)
            have hgd := hv 7 74 (by kernel_rfl) (by kernel_rfl) (of_decide_eq_true (by kernel_rfl))
            refine ask_yes 7 74 true rfl (by kernel_rfl) (by rw [hsize]; exact (of_decide_eq_true (by kernel_rfl))) hgd ?_
            have e1 : b.eval (.tmp 7) = .pointer (some ⟨g7, 0, none⟩) := (hstood 7 (by kernel_rfl)).trans rfl
            exact wp_load_cells 25 (.tmp 7) rfl ⟨g7, 0, none⟩ e1 (V8 Z) _ rfl (fun j v hj => by rw [add_zero_off, Joins.cell_of_block ((hbel.2.1.block g7 hg7B).trans Z712.out)]; exact hj) Try.underlying25 HSZ.out (hK _ _ rfl (Below.refl _ _))
          · obtain rfl : (⟨some 82, .binOp BinOp.eql 25 (Operand.tmp 80) (Operand.tmp 81) 25, _, _, _, _⟩ : Oper) = o := Option.some.inj ho
            have hK := hK1 (by decide)
            have hgd := hv 7 74 (by kernel_rfl) (by kernel_rfl) (of_decide_eq_true (by kernel_rfl))
            refine ask_yes 7 74 true rfl (by kernel_rfl) (by rw [hsize]; exact (of_decide_eq_true (by kernel_rfl))) hgd ?_
            have e0 : b.eval (.tmp 80) = .agg (V8 Z) := hv 13 80 (by kernel_rfl) (by kernel_rfl) (of_decide_eq_true (by kernel_rfl))
            have e1 : b.eval (.tmp 81) = .agg (V8 Z) := hv 14 81 (by kernel_rfl) (by kernel_rfl) (of_decide_eq_true (by kernel_rfl))
            exact wp_val (.bool true) (by simp only [execOp, e0, e1]; simp [go_sem, HEQ.out]) (hK _ _ rfl (Below.refl _ _))
          · obtain rfl : (⟨some 83, .pick (Operand.tmp 74) (Operand.tmp 82) (Operand.const (Value.bool false)), _, _, _, _⟩ : Oper) = o := Option.some.inj ho
            have hK := hK1 (by decide)
            refine ask_plain rfl ?_
            have e0 : b.eval (.tmp 74) = .bool true := hv 7 74 (by kernel_rfl) (by kernel_rfl) (of_decide_eq_true (by kernel_rfl))
            have e1 : b.eval (.tmp 82) = .bool true := hv 15 82 (by kernel_rfl) (by kernel_rfl) (of_decide_eq_true (by kernel_rfl))
            exact wp_val (.bool true) (by simp only [execOp, e0, e1]; rfl) (hK _ _ rfl (Below.refl _ _))
        · intro vs w6 hp ⟨L6, hI6⟩
          have v16 : vs 16 = .bool true := hp 16 (by decide) (by decide)
          have B6 := Lib.hid (B1.out.trans ((HW12.out.trans (hI6.2.1.mono hw1B)).mono B1.out.size))
          change wpList _ _ _ [_] _ _
          simp only [putD, Act.put, List.setIfInBounds_toArray, List.set_cons_zero, List.set_cons_succ, v16]
          generalize vs 0 = y0, vs 1 = y1, vs 2 = y2, vs 3 = y3, vs 4 = y4, vs 5 = y5, vs 6 = y6, vs 7 = y7, vs 8 = y8, vs 9 = y9, vs 10 = y10, vs 11 = y11, vs 12 = y12, vs 13 = y13, vs 14 = y14, vs 15 = y15
          clear hp hI6 v16
          go_wp2
          go_ret
          exact ⟨rfl, B6.out⟩
end Go.Proofs.Ytjaakhjfpigdfaa
