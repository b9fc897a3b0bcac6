import Derived.Test.YtjaakhjfpigdfaaE3
import Derived.Deep.CutRange
/-! MacWrites. -/
namespace Go.Proofs.Ytjaakhjfpigdfaa
open Go.RowKit
set_option linter.unusedVariables false
set_option linter.unusedSimpArgs false
def allB (ps : List By) (i : Nat) : By := ((ps.take i).map fun p => p.take 200).flatten
theorem allB_succ (ps : List By) (i : Nat) (h : i < ps.length) : allB ps (i + 1) = allB ps i ++ (ps.getD i []).take 200 := by
  unfold allB
  rw [List.take_add_one, List.getElem?_eq_getElem h, List.getD_eq_getElem?_getD, List.getElem?_eq_getElem h, List.map_append, List.flatten_append]
  show _ ++ List.flatten [List.take 200 ps[i]] = _ ++ List.take 200 ps[i]
  rw [List.flatten_cons, List.flatten_nil, List.append_nil]
theorem allB_len (ps : List By) : ∀ i, i ≤ ps.length → (allB ps i).length ≤ 200 * i
  | 0, _ => by simp [allB]
  | i + 1, h => by
    rw [allB_succ ps i (by omega), List.length_append, List.length_take]
    have := allB_len ps i (by omega)
    omega
def pdWR (kv v6 v10 : Value) (Z : By) (g : Nat) : Nat → Value → World → Prop
  | 0 => fun v w => v = .int .i64 0
  | 1 => fun v w => v = .bool false
  | 2 => fun v w => v = .bool false
  | 3 => fun v w => v = .agg (V8 Z)
  | 4 => fun v w => v = kv
  | 5 => fun v w => v = v6
  | 6 => fun v w => v = .agg (V8 Z)
  | 7 => fun v w => v = .bool false
  | 8 => fun v w => v = .bool false
  | 9 => fun v w => v = .bool false
  | 10 => fun v w => v = .pointer (some ⟨g, 0, none⟩)
  | 11 => fun v w => v = v10
  | _ => fun _ _ => True
theorem pdWR_mono (kv v6 v10 : Value) (Z : By) (g : Nat) : ∀ q0 v w w', pdWR kv v6 v10 Z g q0 v w → Below w.heap.size w w' → pdWR kv v6 v10 Z g q0 v w'
  | 0, _, _, _, h, _ => h
  | 1, _, _, _, h, _ => h
  | 2, _, _, _, h, _ => h
  | 3, _, _, _, h, _ => h
  | 4, _, _, _, h, _ => h
  | 5, _, _, _, h, _ => h
  | 6, _, _, _, h, _ => h
  | 7, _, _, _, h, _ => h
  | 8, _, _, _, h, _ => h
  | 9, _, _, _, h, _ => h
  | 10, _, _, _, h, _ => h
  | 11, _, _, _, h, _ => h
  | _ + 12, _, _, _, _, _ => trivial
def pdWS (kv v6 : Value) (Z : By) : Nat → Value → World → Prop
  | 0 => fun v w => v = .int .i64 0
  | 1 => fun v w => v = .bool true
  | 2 => fun v w => v = .bool true
  | 3 => fun v w => v = .agg (V8 Z)
  | 4 => fun v w => v = kv
  | 5 => fun v w => v = v6
  | 6 => fun v w => v = .agg (V8 Z)
  | 7 => fun v w => v = .bool true
  | 8 => fun v w => v = .bool true
  | _ => fun _ _ => True
theorem pdWS_mono (kv v6 : Value) (Z : By) : ∀ q0 v w w', pdWS kv v6 Z q0 v w → Below w.heap.size w w' → pdWS kv v6 Z q0 v w'
  | 0, _, _, _, h, _ => h
  | 1, _, _, _, h, _ => h
  | 2, _, _, _, h, _ => h
  | 3, _, _, _, h, _ => h
  | 4, _, _, _, h, _ => h
  | 5, _, _, _, h, _ => h
  | 6, _, _, _, h, _ => h
  | 7, _, _, _, h, _ => h
  | 8, _, _, _, h, _ => h
  | _ + 9, _, _, _, _, _ => trivial
set_option maxRecDepth 100000 in
set_option maxHeartbeats 8000000 in
theorem macWrites_true (k : By) (A0 : Option Addr) (c0 : Nat) (ps : List By) (A : Option Addr) (c : Nat) (w : World) (hr : RdB w A0 k) (hc : k.length ≤ c0) (y0 : k.length * 1 ≤ 140737488351232) (hn : A0 = none → c0 = 0) (hrp : RdN w A ps) (hcp : ps.length ≤ c) : Calls Try.prog 16 #[.slice A0 k.length c0, .slice A ps.length c] w fun e w' => e = .returned (.bool true) ∧ Below w.heap.size w w' := by
  have hz32 := zeros32
  have hzs32 : (V8 (List.replicate 32 0)).size = 32 := by rw [V8_size]; rfl
  obtain ⟨Zr, hZr⟩ : ∃ Z, V8 (List.replicate 32 0) = Z := ⟨_, rfl⟩
  rw [hZr] at hz32 hzs32
  have HZ32 := Lib.hid hz32
  have HZS32 := Lib.hid hzs32
  have hEk : EqN w k (.slice A0 k.length c0) := ⟨A0, c0, rfl, hc, hr, hn⟩
  obtain ⟨kv0, hkv0⟩ : ∃ v, Value.slice A0 k.length c0 = v := ⟨_, rfl⟩
  rw [hkv0] at hEk ⊢
  have AW := Lib.hid (awake4_any w)
  have HC1 := Lib.hid (fun (w' : World) (hb : Below w.heap.size w w') => cut4_any k kv0 w' (hEk.below hb))
  have HR := Lib.hid hrp
  obtain ⟨n, hn2⟩ : ∃ n, ps.length = n := ⟨_, rfl⟩
  have HN := Lib.hid hn2
  rw [hn2] at hcp ⊢
  clear hz32 hzs32 hZr hkv0 hEk hr hc y0 hn hrp hn2
  go_enter Try.func16, Try.ntmps16
  go_wp2_with fail
  refine AW.out.mono ?_
  rintro e w1 ⟨rfl, hb1⟩
  have B1 := Lib.hid hb1
  clear AW hb1
  go_wp2_with fail
  refine (HC1.out w1 B1.out).mono ?_
  rintro e w2 ⟨kv, rfl, hEk, rfl⟩
  have HKV1 := Lib.hid hEk
  clear hEk HC1
  have hkl : (k.take 2000).length ≤ 1000000 := by rw [List.length_take]; omega
  obtain ⟨k2, hk2⟩ : ∃ q, k.take 2000 = q := ⟨_, rfl⟩
  rw [hk2] at hkl HKV1
  have HKL := Lib.hid hkl
  have NW := Lib.hid (mnew_any k2 kv w1 HKV1.out hkl)
  clear hk2 hkl
  go_wp2_with fail
  refine NW.out.mono ?_
  rintro e w3 ⟨g, h, rfl, hm3, hb3, hgg, hhh⟩
  have HM3 := Lib.hid hm3
  have B3 := Lib.hid hb3
  have hg3 : g < w3.heap.size := (Array.getElem?_eq_some_iff.1 hm3.1).1
  have hh3 : h < w3.heap.size := by obtain ⟨_, ⟨lv, hc, _⟩, _⟩ := hm3; exact (Array.getElem?_eq_some_iff.1 hc).1
  obtain ⟨BB, hBB⟩ : ∃ b, w3.heap.size = b := ⟨_, rfl⟩
  rw [hBB] at hg3 hh3
  have HBB := Lib.hid hBB
  clear hm3 hb3 hBB NW
  go_wp2
  go_loopg [6, 7] 12 (fun gk v6 v7 wr => ∃ i : Nat, gk = 12 - i ∧ i ≤ 12 ∧ i ≤ n ∧ v7 = .int .i64 (i : Int) ∧ wr.ownsRow BB 5 1 v6 (allB ps i).length (bytesV (allB ps i)) ∧ MacAt wr g h k2 (allB ps i) ∧ Below w1.heap.size w1 wr ∧ BB ≤ wr.heap.size)
  case atStart => exact ⟨0, rfl, by omega, by omega, rfl, ⟨rfl, .inl ⟨rfl, rfl⟩⟩, HM3.out, B3.out, by rw [← HBB.out]; exact Nat.le_refl _⟩
  case round =>
    clear HM3 B3
    obtain ⟨i, rfl, hi, hi2, rfl, hown, hm, hbw, hbb⟩ := hrel
    have hall := allB_len ps i (by rw [HN.out]; exact hi2)
    have S1 := Lib.hid (mmsum_any g h k2 (allB ps i) wr hm (by omega))
    have hml := macL_len k2 (allB ps i)
    obtain ⟨L, hL⟩ : ∃ L, allB ps i = L := ⟨_, rfl⟩
    rw [hL] at hown hm hall S1 hml
    obtain ⟨Z, hZ⟩ : ∃ Z, macL k2 L = Z := ⟨_, rfl⟩
    rw [hZ] at S1 hml
    have HZ1 := Lib.hid hZ
    have HL := Lib.hid hL
    have HLL := Lib.hid (show L.length ≤ 1000000 by omega)
    have HLL2 := Lib.hid (show L.length ≤ 2400 by omega)
    have HSZ := Lib.hid (show (Try.prog.info? 25).map (·.size) = some (V8 Z).size by rw [V8_size, hml]; kernel_rfl)
    have HZZ := Lib.hid (show Zr.size = (V8 Z).size by rw [V8_size, hml]; exact HZS32.out)
    have HEQ := Lib.hid (fun w => eq_dig 25 Try.underlying25 Z Z hml hml w)
    rw [show (Z == Z) = true by simp] at HEQ
    have HOW := Lib.hid hown
    have HM := Lib.hid hm
    have HBW := Lib.hid hbw
    clear hown hm hbw hL hZ hml hall
    by_cases hin : i < n ∧ i < 12
    · obtain ⟨hlt, h12⟩ := hin
      have d1 : decide ((i : Int) < (n : Int)) = true := by simp; omega
      have d2 : decide ((i : Int) < 12) = true := by simp; omega
      obtain ⟨ad, u, rfl, hcell, hEu⟩ := HR.out.at' i (by rw [HN.out]; exact hlt)
      have hsc := allB_succ ps i (by rw [HN.out]; exact hlt)
      obtain ⟨p, hp⟩ : ∃ p, ps.getD i [] = p := ⟨_, rfl⟩
      rw [hp] at hEu hsc
      rw [HL.out] at hsc
      have HSC := Lib.hid hsc
      clear hsc hp
      obtain ⟨Au, cu, rfl, hcu, hru, hnu⟩ := hEu
      have HEU := Lib.hid (show EqN w p (.slice Au p.length cu) from ⟨Au, cu, rfl, hcu, hru, hnu⟩)
      obtain ⟨pn, hpn⟩ : ∃ q, p.length = q := ⟨_, rfl⟩
      have HPN := Lib.hid hpn
      rw [hpn] at hcu hcell HEU
      have hcw : wr.cell? (ad.add i) = some (.slice Au pn cu) := by
        have hb := B1.out.trans (HBW.out.mono B1.out.size)
        exact (hb.cell (World.block_lt_of_cell? _ _ hcell)).trans hcell
      have HCW := Lib.hid hcw
      clear hru hnu hpn hcell hcw
      go_wp2_with fail
      refine S1.out.mono ?_
      rintro e w4 ⟨rfl, hb4⟩
      have HOW4 := Lib.hid (own_below HOW.out hb4)
      have HM4 := Lib.hid (HM.out.below hb4)
      have HBW4 := Lib.hid (HBW.out.trans (hb4.mono HBW.out.size))
      have hbb4 := Nat.le_trans hbb hb4.size
      have q4 : w4.cell? (ad.add i) = some (.slice Au pn cu) := (hb4.cell (World.block_lt_of_cell? _ _ HCW.out)).trans HCW.out
      have Q4 := Lib.hid q4
      clear S1 hb4 HOW HM HBW HCW q4 hbb
      go_upto_region 10 with (first | ((with_reducible show wpList _ _ _ (⟨none, .store 25 (.tmp 8) (.tmp 32), _, _, _, _⟩ :: _) _ _); rw [← HZ32.out]; refine wpList_store_row rfl 25 (.tmp 8) (.tmp 32) rfl w4.heap.size (V8 Z) rfl rfl 25 _ (heap_new _ _ _ rfl) HSZ.out HZZ.out (V8_one _) ?_) | fail)
      generalize hW5 : (World.setRow _ _ _) = W5
      obtain ⟨g8, hg8⟩ : ∃ g, w4.heap.size = g := ⟨_, rfl⟩
      have b5 : Below w4.heap.size w4 W5 := by rw [← hW5]; exact below_setRow _ _ ((Below.refl _ _).alloc (Nat.le_refl _) _) (Nat.le_refl _)
      have Z8 := Lib.hid (show W5.heap[g8]? = some (.cells (V8 Z) 25 (0, 0)) by rw [← hW5, ← hg8]; exact setRow_heap _ _ _ _ _ _ (heap_new _ _ _ rfl))
      have HOW5 := Lib.hid (own_below HOW4.out b5)
      have HM5 := Lib.hid (HM4.out.below b5)
      have HBW5 := Lib.hid (HBW4.out.trans (b5.mono HBW4.out.size))
      have hbb5 := Nat.le_trans hbb4 b5.size
      have q5 : W5.cell? (ad.add i) = some (.slice Au pn cu) := (b5.cell (World.block_lt_of_cell? _ _ Q4.out)).trans Q4.out
      rw [hg8]
      clear hW5 hg8 b5 HOW4 HM4 HBW4 hbb4 Q4
      have hEt : ∃ m : Nat, m ≤ 200 ∧ EqN w (p.take 200) (.slice Au m cu) ∧ ((200 < pn ∧ m = 200) ∨ (¬ 200 < pn ∧ m = pn)) := by
        by_cases h6 : 200 < pn
        · refine ⟨200, Nat.le_refl _, ?_, .inl ⟨h6, rfl⟩⟩
          have h := HEU.out
          rw [← HPN.out] at h
          exact h.take 200 (by rw [HPN.out]; omega)
        · exact ⟨pn, by omega, by rw [List.take_of_length_le (by rw [HPN.out]; omega)]; exact HEU.out, .inr ⟨h6, rfl⟩⟩
      obtain ⟨m, hm2, hq, hcase⟩ := hEt
      have hql : (p.take 200).length = m := by obtain ⟨_, _, e, _⟩ := hq; simp only [Value.slice.injEq] at e; exact e.2.1.symm
      obtain ⟨q, hq2⟩ : ∃ q, p.take 200 = q := ⟨_, rfl⟩
      rw [hq2] at hq hql HSC
      have HQ := Lib.hid hq
      have HQL := Lib.hid hql
      have hrt := run_take Au pn cu 200
      have HV6 := Lib.hid (show EqN W5 L u6 from EqN.own HOW5.out)
      have HKV := Lib.hid (HKV1.out.below HBW5.out)
      have hm2I : (200 : Int) ≤ (cu : Int) ∨ True := .inr trivial
      clear hq hql hq2 hm2I
      go_upto_if 40 with (fail)
      rcases hcase with ⟨h6, rfl⟩ | ⟨h6, rfl⟩
      · have hcI : (200 : Int) ≤ (cu : Int) := by omega
        have hrt2 := hrt (by omega)
        have hdt : decide ((200 : Int) < (pn : Int)) = true := by simp; omega
        rw [hdt]
        clear hrt q5 hdt h6
        go_upto_region 13 with (fail)
        clear HEU hrt2 hcI
        revert HQ
        generalize Value.slice Au 200 cu = v10
        intro HQ
        obtain ⟨v6, hv6⟩ : ∃ v, u6 = v := ⟨_, rfl⟩
        rw [hv6] at HOW5 HV6 ⊢
        clear hv6
        refine wp_region_mono (w0 := _) 12 [some 43, some 44, some 45, some 46, some 47, some 48, some 49, some 50, some 51, some 52, some 53, some 54] (by kernel_rfl) (by kernel_rfl) (by kernel_rfl) (by kernel_rfl) (of_decide_eq_true (by kernel_rfl)) (by kernel_rfl) (pdWR kv v6 v10 Z g) ?_ ?_ ?_
        · exact pdWR_mono kv v6 v10 Z g
        · intro i hi o w1 b ho hbel hv hstood hsize K hK
          have hc : i = 0 ∨ i = 1 ∨ i = 2 ∨ i = 3 ∨ i = 4 ∨ i = 5 ∨ i = 6 ∨ i = 7 ∨ i = 8 ∨ i = 9 ∨ i = 10 ∨ i = 11 := by omega
          rcases hc with rfl | rfl | rfl | rfl | rfl | rfl | rfl | rfl | rfl | rfl | rfl | rfl
          · obtain rfl : (⟨some 43, .move (Operand.tmp 9), _, _, _, _⟩ : Oper) = o := Option.some.inj ho
            refine ask_plain rfl ?_
            have e : b.eval (.tmp 9) = .int .i64 0 := (hstood 9 (by kernel_rfl)).trans rfl
            exact wp_val _ rfl (hK _ _ e (Below.refl _ _))
          · obtain rfl : (⟨some 44, .binOp BinOp.neq 44 (Operand.tmp 43) (Operand.const (Value.int IntKind.i64 0)) 44, _, _, _, _⟩ : Oper) = o := Option.some.inj ho
            refine ask_plain rfl ?_
            have e0 : b.eval (.tmp 43) = .int .i64 0 := hv 0 43 (by kernel_rfl) (by kernel_rfl) (of_decide_eq_true (by kernel_rfl))
            exact wp_val (.bool false) (by simp only [execOp, e0]; rfl) (hK _ _ rfl (Below.refl _ _))
          · obtain rfl : (⟨some 45, .move (Operand.tmp 44), _, _, _, _⟩ : Oper) = o := Option.some.inj ho
            refine ask_plain rfl ?_
            have e : b.eval (.tmp 44) = .bool false := hv 1 44 (by kernel_rfl) (by kernel_rfl) (of_decide_eq_true (by kernel_rfl))
            exact wp_val _ rfl (hK _ _ e (Below.refl _ _))
          · obtain rfl : (⟨some 46, .load 25 (Operand.tmp 8), _, _, _, _⟩ : Oper) = o := Option.some.inj ho
            have hgd := hv 2 45 (by kernel_rfl) (by kernel_rfl) (of_decide_eq_true (by kernel_rfl))
            refine ask_yes 2 45 false rfl (by kernel_rfl) (by rw [hsize]; exact (of_decide_eq_true (by kernel_rfl))) hgd ?_
            have e1 : b.eval (.tmp 8) = .pointer (some ⟨g8, 0, none⟩) := (hstood 8 (by kernel_rfl)).trans rfl
            exact wp_load_cells 25 (.tmp 8) rfl ⟨g8, 0, none⟩ e1 (V8 Z) _ rfl (fun j v hj => by rw [add_zero_off, Joins.cell_of_block ((hbel.block _ (Array.getElem?_eq_some_iff.1 Z8.out).1).trans Z8.out)]; exact hj) Try.underlying25 HSZ.out (hK _ _ rfl (Below.refl _ _))
          · obtain rfl : (⟨some 47, .move (Operand.tmp 0), _, _, _, _⟩ : Oper) = o := Option.some.inj ho
            have hgd := hv 2 45 (by kernel_rfl) (by kernel_rfl) (of_decide_eq_true (by kernel_rfl))
            refine ask_yes 2 45 false rfl (by kernel_rfl) (by rw [hsize]; exact (of_decide_eq_true (by kernel_rfl))) hgd ?_
            have e : b.eval (.tmp 0) = kv := (hstood 0 (by kernel_rfl)).trans rfl
            exact wp_val _ rfl (hK _ _ e (Below.refl _ _))
          · obtain rfl : (⟨some 48, .move (Operand.tmp 6), _, _, _, _⟩ : Oper) = o := Option.some.inj ho
            have hgd := hv 2 45 (by kernel_rfl) (by kernel_rfl) (of_decide_eq_true (by kernel_rfl))
            refine ask_yes 2 45 false rfl (by kernel_rfl) (by rw [hsize]; exact (of_decide_eq_true (by kernel_rfl))) hgd ?_
            have e : b.eval (.tmp 6) = v6 := (hstood 6 (by kernel_rfl)).trans rfl
            exact wp_val _ rfl (hK _ _ e (Below.refl _ _))
          · obtain rfl : (⟨some 49, .call { callee := (Callee.value (Operand.func 58)), args := #[(Operand.tmp 47), (Operand.tmp 48)], argTypes := #[35, 35] }, _, _, _, _⟩ : Oper) = o := Option.some.inj ho
            have hgd := hv 2 45 (by kernel_rfl) (by kernel_rfl) (of_decide_eq_true (by kernel_rfl))
            refine ask_yes 2 45 false rfl (by kernel_rfl) (by rw [hsize]; exact (of_decide_eq_true (by kernel_rfl))) hgd ?_
            have e1 : b.eval (.tmp 47) = kv := hv 4 47 (by kernel_rfl) (by kernel_rfl) (of_decide_eq_true (by kernel_rfl))
            have e2 : b.eval (.tmp 48) = v6 := hv 5 48 (by kernel_rfl) (by kernel_rfl) (of_decide_eq_true (by kernel_rfl))
            have hcall := rmof_any k2 kv L v6 w1 (HKV.out.below hbel) HKL.out (HV6.out.below hbel) HLL.out
            rw [HZ1.out] at hcall
            refine wp_call_fn 58 #[.tmp 47, .tmp 48] #[35, 35] rfl Try.f58 _ Try.func58 (by kernel_rfl) rfl #[kv, v6] (by simp [e1, e2]) (hcall.mono ?_)
            rintro e w2 ⟨rfl, hb2⟩
            exact ⟨_, rfl, hK _ _ rfl hb2⟩
          · obtain rfl : (⟨some 50, .binOp BinOp.neq 25 (Operand.tmp 46) (Operand.tmp 49) 25, _, _, _, _⟩ : Oper) = o := Option.some.inj ho
            have hgd := hv 2 45 (by kernel_rfl) (by kernel_rfl) (of_decide_eq_true (by kernel_rfl))
            refine ask_yes 2 45 false rfl (by kernel_rfl) (by rw [hsize]; exact (of_decide_eq_true (by kernel_rfl))) hgd ?_
            have e0 : b.eval (.tmp 46) = .agg (V8 Z) := hv 3 46 (by kernel_rfl) (by kernel_rfl) (of_decide_eq_true (by kernel_rfl))
            have e1 : b.eval (.tmp 49) = .agg (V8 Z) := hv 6 49 (by kernel_rfl) (by kernel_rfl) (of_decide_eq_true (by kernel_rfl))
            exact wp_val (.bool false) (by simp only [execOp, e0, e1]; simp [go_sem, HEQ.out]) (hK _ _ rfl (Below.refl _ _))
          · obtain rfl : (⟨some 51, .pick (Operand.tmp 45) (Operand.const (Value.bool true)) (Operand.tmp 50), _, _, _, _⟩ : Oper) = o := Option.some.inj ho
            refine ask_plain rfl ?_
            have e0 : b.eval (.tmp 45) = .bool false := hv 2 45 (by kernel_rfl) (by kernel_rfl) (of_decide_eq_true (by kernel_rfl))
            have e1 : b.eval (.tmp 50) = .bool false := hv 7 50 (by kernel_rfl) (by kernel_rfl) (of_decide_eq_true (by kernel_rfl))
            exact wp_val (.bool false) (by simp only [execOp, e0, e1]; rfl) (hK _ _ rfl (Below.refl _ _))
          · obtain rfl : (⟨some 52, .move (Operand.tmp 51), _, _, _, _⟩ : Oper) = o := Option.some.inj ho
            refine ask_plain rfl ?_
            have e : b.eval (.tmp 51) = .bool false := hv 8 51 (by kernel_rfl) (by kernel_rfl) (of_decide_eq_true (by kernel_rfl))
            exact wp_val _ rfl (hK _ _ e (Below.refl _ _))
          · obtain rfl : (⟨some 53, .move (Operand.tmp 5), _, _, _, _⟩ : Oper) = o := Option.some.inj ho
            have hgd := hv 9 52 (by kernel_rfl) (by kernel_rfl) (of_decide_eq_true (by kernel_rfl))
            refine ask_yes 9 52 false rfl (by kernel_rfl) (by rw [hsize]; exact (of_decide_eq_true (by kernel_rfl))) hgd ?_
            have e : b.eval (.tmp 5) = .pointer (some ⟨g, 0, none⟩) := (hstood 5 (by kernel_rfl)).trans rfl
            exact wp_val _ rfl (hK _ _ e (Below.refl _ _))
          · obtain rfl : (⟨some 54, .move (Operand.tmp 10), _, _, _, _⟩ : Oper) = o := Option.some.inj ho
            have hgd := hv 9 52 (by kernel_rfl) (by kernel_rfl) (of_decide_eq_true (by kernel_rfl))
            refine ask_yes 9 52 false rfl (by kernel_rfl) (by rw [hsize]; exact (of_decide_eq_true (by kernel_rfl))) hgd ?_
            have e : b.eval (.tmp 10) = v10 := (hstood 10 (by kernel_rfl)).trans rfl
            exact wp_val _ rfl (hK _ _ e (Below.refl _ _))
        · intro vs w6 hp hb6
          have v0 : vs 0 = .int .i64 0 := hp 0 (by decide)
          have v1 : vs 1 = .bool false := hp 1 (by decide)
          have v2 : vs 2 = .bool false := hp 2 (by decide)
          have v3 : vs 3 = .agg (V8 Z) := hp 3 (by decide)
          have v4 : vs 4 = kv := hp 4 (by decide)
          have v5 : vs 5 = v6 := hp 5 (by decide)
          have v6' : vs 6 = .agg (V8 Z) := hp 6 (by decide)
          have v7 : vs 7 = .bool false := hp 7 (by decide)
          have v8 : vs 8 = .bool false := hp 8 (by decide)
          have v9 : vs 9 = .bool false := hp 9 (by decide)
          have v10' : vs 10 = .pointer (some ⟨g, 0, none⟩) := hp 10 (by decide)
          have v11 : vs 11 = v10 := hp 11 (by decide)
          have HOW6 := Lib.hid (own_below HOW5.out hb6)
          have HM6 := HM5.out.below hb6
          have HBW6 := Lib.hid (HBW5.out.trans (hb6.mono HBW5.out.size))
          have HQ6 := Lib.hid (HQ.out.below (B1.out.trans (HBW6.out.mono B1.out.size)))
          have WR := Lib.hid (mwrite_anyF g h k2 L q v10 w6 HM6 HQ6.out (by have := HLL2.out; have := HQL.out; omega))
          have hbb6 := Nat.le_trans hbb5 hb6.size
          have OL6 := Lib.hid (own_lt HOW6.out)
          change wpList _ _ _ [_, _, _] _ _
          simp only [putD, Act.put, List.setIfInBounds_toArray, List.set_cons_zero, List.set_cons_succ, v0, v1, v2, v3, v4, v5, v6', v7, v8, v9, v10', v11]
          clear v0 v1 v2 v3 v4 v5 v6' v7 v8 v9 v10' v11 hp hb6 HM6 HOW5 HM5 HBW5 hbb5 Z8 HKV HV6
          go_wp2_with fail
          refine WR.out.mono ?_
          rintro e w7 ⟨rfl, hmf, hbs⟩
          have HMF := Lib.hid hmf
          have HOW7 := Lib.hid (own_bes HOW6.out hh3 hbs)
          have HBW7 := Lib.hid (HBW6.out.trans (hbs.to_below hhh HBW6.out.size))
          have hbb7 : BB ≤ w7.heap.size := Nat.le_trans hbb6 hbs.size
          obtain ⟨Aq, cq, hvq, hcq, hrq, hnq⟩ := HQ.out.below (B1.out.trans (HBW7.out.mono B1.out.size))
          rw [HQL.out] at hvq
          have HRQ := Lib.hid hrq
          have HNQ := Lib.hid hnq
          have HCQ := Lib.hid hcq
          have hm2' : q.length ≤ 200 := by rw [HQL.out]; exact hm2
          have hll := HLL2.out
          subst hvq
          clear WR hmf hbs HOW6 HBW6 hrq hnq hcq HQ6
          go_wp2_with (first | (at_builtin; refine wpList_append_bytes rfl (.tmp 58) (.tmp 59) rfl BB v6 L.length (bytesV L) rfl HOW7.out Aq cq q (by rw [HQL.out]; rfl) HRQ.out HNQ.out HCQ.out (by omega) hbb7 ?_; intro v2 w8 hown hgrow _; have HMF8 := Lib.hid (HMF.out.grown HOW7.out hg3 hh3 OL6.out hgrow); have hb8 : Below BB w7 w8 := (Below.refl _ _).grown hgrow hbb7 (own_base' HOW7.out); have HO8 := Lib.hid hown; have HB8 := Lib.hid hb8; clear hown hgrow hb8) | fail)
          go_roundg (12 - (i + 1))
          case measure => omega
          case rel =>
            refine ⟨i + 1, rfl, by omega, by omega, by go_num, ?_, ?_, HBW7.out.trans (HB8.out.mono (by omega)), Nat.le_trans hbb7 HB8.out.size⟩
            · rw [HSC.out, List.length_append, bytesV_app]; exact HO8.out
            · rw [HSC.out]; exact HMF8.out.mac
      · have hdf : decide ((200 : Int) < (m : Int)) = false := by simp; omega
        rw [hdf]
        clear hrt h6 q5 hdf
        go_upto_region 13 with (fail)
        clear HEU hcu HPN
        revert HQ
        generalize Value.slice Au m cu = v10
        intro HQ
        obtain ⟨v6, hv6⟩ : ∃ v, u6 = v := ⟨_, rfl⟩
        rw [hv6] at HOW5 HV6 ⊢
        clear hv6
        refine wp_region_mono (w0 := _) 12 [some 43, some 44, some 45, some 46, some 47, some 48, some 49, some 50, some 51, some 52, some 53, some 54] (by kernel_rfl) (by kernel_rfl) (by kernel_rfl) (by kernel_rfl) (of_decide_eq_true (by kernel_rfl)) (by kernel_rfl) (pdWR kv v6 v10 Z g) ?_ ?_ ?_
        · exact pdWR_mono kv v6 v10 Z g
        · intro i hi o w1 b ho hbel hv hstood hsize K hK
          have hc : i = 0 ∨ i = 1 ∨ i = 2 ∨ i = 3 ∨ i = 4 ∨ i = 5 ∨ i = 6 ∨ i = 7 ∨ i = 8 ∨ i = 9 ∨ i = 10 ∨ i = 11 := by omega
          rcases hc with rfl | rfl | rfl | rfl | rfl | rfl | rfl | rfl | rfl | rfl | rfl | rfl
          · obtain rfl : (⟨some 43, .move (Operand.tmp 9), _, _, _, _⟩ : Oper) = o := Option.some.inj ho
            refine ask_plain rfl ?_
            have e : b.eval (.tmp 9) = .int .i64 0 := (hstood 9 (by kernel_rfl)).trans rfl
            exact wp_val _ rfl (hK _ _ e (Below.refl _ _))
          · obtain rfl : (⟨some 44, .binOp BinOp.neq 44 (Operand.tmp 43) (Operand.const (Value.int IntKind.i64 0)) 44, _, _, _, _⟩ : Oper) = o := Option.some.inj ho
            refine ask_plain rfl ?_
            have e0 : b.eval (.tmp 43) = .int .i64 0 := hv 0 43 (by kernel_rfl) (by kernel_rfl) (of_decide_eq_true (by kernel_rfl))
            exact wp_val (.bool false) (by simp only [execOp, e0]; rfl) (hK _ _ rfl (Below.refl _ _))
          · obtain rfl : (⟨some 45, .move (Operand.tmp 44), _, _, _, _⟩ : Oper) = o := Option.some.inj ho
            refine ask_plain rfl ?_
            have e : b.eval (.tmp 44) = .bool false := hv 1 44 (by kernel_rfl) (by kernel_rfl) (of_decide_eq_true (by kernel_rfl))
            exact wp_val _ rfl (hK _ _ e (Below.refl _ _))
          · obtain rfl : (⟨some 46, .load 25 (Operand.tmp 8), _, _, _, _⟩ : Oper) = o := Option.some.inj ho
            have hgd := hv 2 45 (by kernel_rfl) (by kernel_rfl) (of_decide_eq_true (by kernel_rfl))
            refine ask_yes 2 45 false rfl (by kernel_rfl) (by rw [hsize]; exact (of_decide_eq_true (by kernel_rfl))) hgd ?_
            have e1 : b.eval (.tmp 8) = .pointer (some ⟨g8, 0, none⟩) := (hstood 8 (by kernel_rfl)).trans rfl
            exact wp_load_cells 25 (.tmp 8) rfl ⟨g8, 0, none⟩ e1 (V8 Z) _ rfl (fun j v hj => by rw [add_zero_off, Joins.cell_of_block ((hbel.block _ (Array.getElem?_eq_some_iff.1 Z8.out).1).trans Z8.out)]; exact hj) Try.underlying25 HSZ.out (hK _ _ rfl (Below.refl _ _))
          · obtain rfl : (⟨some 47, .move (Operand.tmp 0), _, _, _, _⟩ : Oper) = o := Option.some.inj ho
            have hgd := hv 2 45 (by kernel_rfl) (by kernel_rfl) (of_decide_eq_true (by kernel_rfl))
            refine ask_yes 2 45 false rfl (by kernel_rfl) (by rw [hsize]; exact (of_decide_eq_true (by kernel_rfl))) hgd ?_
            have e : b.eval (.tmp 0) = kv := (hstood 0 (by kernel_rfl)).trans rfl
            exact wp_val _ rfl (hK _ _ e (Below.refl _ _))
          · obtain rfl : (⟨some 48, .move (Operand.tmp 6), _, _, _, _⟩ : Oper) = o := Option.some.inj ho
            have hgd := hv 2 45 (by kernel_rfl) (by kernel_rfl) (of_decide_eq_true (by kernel_rfl))
            refine ask_yes 2 45 false rfl (by kernel_rfl) (by rw [hsize]; exact (of_decide_eq_true (by kernel_rfl))) hgd ?_
            have e : b.eval (.tmp 6) = v6 := (hstood 6 (by kernel_rfl)).trans rfl
            exact wp_val _ rfl (hK _ _ e (Below.refl _ _))
          · obtain rfl : (⟨some 49, .call { callee := (Callee.value (Operand.func 58)), args := #[(Operand.tmp 47), (Operand.tmp 48)], argTypes := #[35, 35] }, _, _, _, _⟩ : Oper) = o := Option.some.inj ho
            have hgd := hv 2 45 (by kernel_rfl) (by kernel_rfl) (of_decide_eq_true (by kernel_rfl))
            refine ask_yes 2 45 false rfl (by kernel_rfl) (by rw [hsize]; exact (of_decide_eq_true (by kernel_rfl))) hgd ?_
            have e1 : b.eval (.tmp 47) = kv := hv 4 47 (by kernel_rfl) (by kernel_rfl) (of_decide_eq_true (by kernel_rfl))
            have e2 : b.eval (.tmp 48) = v6 := hv 5 48 (by kernel_rfl) (by kernel_rfl) (of_decide_eq_true (by kernel_rfl))
            have hcall := rmof_any k2 kv L v6 w1 (HKV.out.below hbel) HKL.out (HV6.out.below hbel) HLL.out
            rw [HZ1.out] at hcall
            refine wp_call_fn 58 #[.tmp 47, .tmp 48] #[35, 35] rfl Try.f58 _ Try.func58 (by kernel_rfl) rfl #[kv, v6] (by simp [e1, e2]) (hcall.mono ?_)
            rintro e w2 ⟨rfl, hb2⟩
            exact ⟨_, rfl, hK _ _ rfl hb2⟩
          · obtain rfl : (⟨some 50, .binOp BinOp.neq 25 (Operand.tmp 46) (Operand.tmp 49) 25, _, _, _, _⟩ : Oper) = o := Option.some.inj ho
            have hgd := hv 2 45 (by kernel_rfl) (by kernel_rfl) (of_decide_eq_true (by kernel_rfl))
            refine ask_yes 2 45 false rfl (by kernel_rfl) (by rw [hsize]; exact (of_decide_eq_true (by kernel_rfl))) hgd ?_
            have e0 : b.eval (.tmp 46) = .agg (V8 Z) := hv 3 46 (by kernel_rfl) (by kernel_rfl) (of_decide_eq_true (by kernel_rfl))
            have e1 : b.eval (.tmp 49) = .agg (V8 Z) := hv 6 49 (by kernel_rfl) (by kernel_rfl) (of_decide_eq_true (by kernel_rfl))
            exact wp_val (.bool false) (by simp only [execOp, e0, e1]; simp [go_sem, HEQ.out]) (hK _ _ rfl (Below.refl _ _))
          · obtain rfl : (⟨some 51, .pick (Operand.tmp 45) (Operand.const (Value.bool true)) (Operand.tmp 50), _, _, _, _⟩ : Oper) = o := Option.some.inj ho
            refine ask_plain rfl ?_
            have e0 : b.eval (.tmp 45) = .bool false := hv 2 45 (by kernel_rfl) (by kernel_rfl) (of_decide_eq_true (by kernel_rfl))
            have e1 : b.eval (.tmp 50) = .bool false := hv 7 50 (by kernel_rfl) (by kernel_rfl) (of_decide_eq_true (by kernel_rfl))
            exact wp_val (.bool false) (by simp only [execOp, e0, e1]; rfl) (hK _ _ rfl (Below.refl _ _))
          · obtain rfl : (⟨some 52, .move (Operand.tmp 51), _, _, _, _⟩ : Oper) = o := Option.some.inj ho
            refine ask_plain rfl ?_
            have e : b.eval (.tmp 51) = .bool false := hv 8 51 (by kernel_rfl) (by kernel_rfl) (of_decide_eq_true (by kernel_rfl))
            exact wp_val _ rfl (hK _ _ e (Below.refl _ _))
          · obtain rfl : (⟨some 53, .move (Operand.tmp 5), _, _, _, _⟩ : Oper) = o := Option.some.inj ho
            have hgd := hv 9 52 (by kernel_rfl) (by kernel_rfl) (of_decide_eq_true (by kernel_rfl))
            refine ask_yes 9 52 false rfl (by kernel_rfl) (by rw [hsize]; exact (of_decide_eq_true (by kernel_rfl))) hgd ?_
            have e : b.eval (.tmp 5) = .pointer (some ⟨g, 0, none⟩) := (hstood 5 (by kernel_rfl)).trans rfl
            exact wp_val _ rfl (hK _ _ e (Below.refl _ _))
          · obtain rfl : (⟨some 54, .move (Operand.tmp 10), _, _, _, _⟩ : Oper) = o := Option.some.inj ho
            have hgd := hv 9 52 (by kernel_rfl) (by kernel_rfl) (of_decide_eq_true (by kernel_rfl))
            refine ask_yes 9 52 false rfl (by kernel_rfl) (by rw [hsize]; exact (of_decide_eq_true (by kernel_rfl))) hgd ?_
            have e : b.eval (.tmp 10) = v10 := (hstood 10 (by kernel_rfl)).trans rfl
            exact wp_val _ rfl (hK _ _ e (Below.refl _ _))
        · intro vs w6 hp hb6
          have v0 : vs 0 = .int .i64 0 := hp 0 (by decide)
          have v1 : vs 1 = .bool false := hp 1 (by decide)
          have v2 : vs 2 = .bool false := hp 2 (by decide)
          have v3 : vs 3 = .agg (V8 Z) := hp 3 (by decide)
          have v4 : vs 4 = kv := hp 4 (by decide)
          have v5 : vs 5 = v6 := hp 5 (by decide)
          have v6' : vs 6 = .agg (V8 Z) := hp 6 (by decide)
          have v7 : vs 7 = .bool false := hp 7 (by decide)
          have v8 : vs 8 = .bool false := hp 8 (by decide)
          have v9 : vs 9 = .bool false := hp 9 (by decide)
          have v10' : vs 10 = .pointer (some ⟨g, 0, none⟩) := hp 10 (by decide)
          have v11 : vs 11 = v10 := hp 11 (by decide)
          have HOW6 := Lib.hid (own_below HOW5.out hb6)
          have HM6 := HM5.out.below hb6
          have HBW6 := Lib.hid (HBW5.out.trans (hb6.mono HBW5.out.size))
          have HQ6 := Lib.hid (HQ.out.below (B1.out.trans (HBW6.out.mono B1.out.size)))
          have WR := Lib.hid (mwrite_anyF g h k2 L q v10 w6 HM6 HQ6.out (by have := HLL2.out; have := HQL.out; omega))
          have hbb6 := Nat.le_trans hbb5 hb6.size
          have OL6 := Lib.hid (own_lt HOW6.out)
          change wpList _ _ _ [_, _, _] _ _
          simp only [putD, Act.put, List.setIfInBounds_toArray, List.set_cons_zero, List.set_cons_succ, v0, v1, v2, v3, v4, v5, v6', v7, v8, v9, v10', v11]
          clear v0 v1 v2 v3 v4 v5 v6' v7 v8 v9 v10' v11 hp hb6 HM6 HOW5 HM5 HBW5 hbb5 Z8 HKV HV6
          go_wp2_with fail
          refine WR.out.mono ?_
          rintro e w7 ⟨rfl, hmf, hbs⟩
          have HMF := Lib.hid hmf
          have HOW7 := Lib.hid (own_bes HOW6.out hh3 hbs)
          have HBW7 := Lib.hid (HBW6.out.trans (hbs.to_below hhh HBW6.out.size))
          have hbb7 : BB ≤ w7.heap.size := Nat.le_trans hbb6 hbs.size
          obtain ⟨Aq, cq, hvq, hcq, hrq, hnq⟩ := HQ.out.below (B1.out.trans (HBW7.out.mono B1.out.size))
          rw [HQL.out] at hvq
          have HRQ := Lib.hid hrq
          have HNQ := Lib.hid hnq
          have HCQ := Lib.hid hcq
          have hm2' : q.length ≤ 200 := by rw [HQL.out]; exact hm2
          have hll := HLL2.out
          subst hvq
          clear WR hmf hbs HOW6 HBW6 hrq hnq hcq HQ6
          go_wp2_with (first | (at_builtin; refine wpList_append_bytes rfl (.tmp 58) (.tmp 59) rfl BB v6 L.length (bytesV L) rfl HOW7.out Aq cq q (by rw [HQL.out]; rfl) HRQ.out HNQ.out HCQ.out (by omega) hbb7 ?_; intro v2 w8 hown hgrow _; have HMF8 := Lib.hid (HMF.out.grown HOW7.out hg3 hh3 OL6.out hgrow); have hb8 : Below BB w7 w8 := (Below.refl _ _).grown hgrow hbb7 (own_base' HOW7.out); have HO8 := Lib.hid hown; have HB8 := Lib.hid hb8; clear hown hgrow hb8) | fail)
          go_roundg (12 - (i + 1))
          case measure => omega
          case rel =>
            refine ⟨i + 1, rfl, by omega, by omega, by go_num, ?_, ?_, HBW7.out.trans (HB8.out.mono (by omega)), Nat.le_trans hbb7 HB8.out.size⟩
            · rw [HSC.out, List.length_append, bytesV_app]; exact HO8.out
            · rw [HSC.out]; exact HMF8.out.mac
    · have dd : (¬ i < n ∧ decide ((i : Int) < (n : Int)) = false) ∨ (i < n ∧ ¬ i < 12 ∧ decide ((i : Int) < (n : Int)) = true ∧ decide ((i : Int) < 12) = false) := by
        simp only [decide_eq_true_eq, decide_eq_false_iff_not]; omega
      clear hin
      obtain ⟨v6, hv6⟩ : ∃ v, u6 = v := ⟨_, rfl⟩
      rw [hv6] at HOW ⊢
      clear hv6
      rcases dd with ⟨hlt, d1⟩ | ⟨hlt, h12, d1, d2⟩
      all_goals
        go_wp2_with fail
        refine S1.out.mono ?_
        rintro e w4 ⟨rfl, hb4⟩
        have HOW4 := Lib.hid (own_below HOW.out hb4)
        have HBW4 := Lib.hid (HBW.out.trans (hb4.mono HBW.out.size))
        clear S1 hb4 HOW HM HBW hbb
        go_upto_region 17 with (first | ((with_reducible show wpList _ _ _ (⟨none, .store 25 (.tmp 11) (.tmp 64), _, _, _, _⟩ :: _) _ _); rw [← HZ32.out]; refine wpList_store_row rfl 25 (.tmp 11) (.tmp 64) rfl w4.heap.size (V8 Z) rfl rfl 25 _ (heap_new _ _ _ rfl) HSZ.out HZZ.out (V8_one _) ?_) | fail)
        generalize hW5 : (World.setRow _ _ _) = W5
        obtain ⟨g11, hg11⟩ : ∃ g, w4.heap.size = g := ⟨_, rfl⟩
        have b5 : Below w4.heap.size w4 W5 := by rw [← hW5]; exact below_setRow _ _ ((Below.refl _ _).alloc (Nat.le_refl _) _) (Nat.le_refl _)
        have Z8 := Lib.hid (show W5.heap[g11]? = some (.cells (V8 Z) 25 (0, 0)) by rw [← hW5, ← hg11]; exact setRow_heap _ _ _ _ _ _ (heap_new _ _ _ rfl))
        have HV6 := Lib.hid (show EqN W5 L v6 from EqN.own (own_below HOW4.out b5))
        have HBW5 := Lib.hid (HBW4.out.trans (b5.mono HBW4.out.size))
        have HKV := Lib.hid (HKV1.out.below HBW5.out)
        rw [hg11]
        clear hW5 hg11 b5 HOW4 HBW4
        refine wp_region_mono (w0 := _) 9 [some 66, some 67, some 68, some 69, some 70, some 71, some 72, some 73, some 74] (by kernel_rfl) (by kernel_rfl) (by kernel_rfl) (by kernel_rfl) (of_decide_eq_true (by kernel_rfl)) (by kernel_rfl) (pdWS kv v6 Z) ?_ ?_ ?_
        · exact pdWS_mono kv v6 Z
        · intro i hi o w1 b ho hbel hv hstood hsize K hK
          have hc : i = 0 ∨ i = 1 ∨ i = 2 ∨ i = 3 ∨ i = 4 ∨ i = 5 ∨ i = 6 ∨ i = 7 ∨ i = 8 := by omega
          rcases hc with rfl | rfl | rfl | rfl | rfl | rfl | rfl | rfl | rfl
          · obtain rfl : (⟨some 66, .move (Operand.tmp 12), _, _, _, _⟩ : Oper) = o := Option.some.inj ho
            refine ask_plain rfl ?_
            have e : b.eval (.tmp 12) = .int .i64 0 := (hstood 12 (by kernel_rfl)).trans rfl
            exact wp_val _ rfl (hK _ _ e (Below.refl _ _))
          · obtain rfl : (⟨some 67, .binOp BinOp.eql 44 (Operand.tmp 66) (Operand.const (Value.int IntKind.i64 0)) 44, _, _, _, _⟩ : Oper) = o := Option.some.inj ho
            refine ask_plain rfl ?_
            have e0 : b.eval (.tmp 66) = .int .i64 0 := hv 0 66 (by kernel_rfl) (by kernel_rfl) (of_decide_eq_true (by kernel_rfl))
            exact wp_val (.bool true) (by simp only [execOp, e0]; rfl) (hK _ _ rfl (Below.refl _ _))
          · obtain rfl : (⟨some 68, .move (Operand.tmp 67), _, _, _, _⟩ : Oper) = o := Option.some.inj ho
            refine ask_plain rfl ?_
            have e : b.eval (.tmp 67) = .bool true := hv 1 67 (by kernel_rfl) (by kernel_rfl) (of_decide_eq_true (by kernel_rfl))
            exact wp_val _ rfl (hK _ _ e (Below.refl _ _))
          · obtain rfl : (⟨some 69, .load 25 (Operand.tmp 11), _, _, _, _⟩ : Oper) = o := Option.some.inj ho
            have hgd := hv 2 68 (by kernel_rfl) (by kernel_rfl) (of_decide_eq_true (by kernel_rfl))
            refine ask_yes 2 68 true rfl (by kernel_rfl) (by rw [hsize]; exact (of_decide_eq_true (by kernel_rfl))) hgd ?_
            have e1 : b.eval (.tmp 11) = .pointer (some ⟨g11, 0, none⟩) := (hstood 11 (by kernel_rfl)).trans rfl
            exact wp_load_cells 25 (.tmp 11) rfl ⟨g11, 0, none⟩ e1 (V8 Z) _ rfl (fun j v hj => by rw [add_zero_off, Joins.cell_of_block ((hbel.block _ (Array.getElem?_eq_some_iff.1 Z8.out).1).trans Z8.out)]; exact hj) Try.underlying25 HSZ.out (hK _ _ rfl (Below.refl _ _))
          · obtain rfl : (⟨some 70, .move (Operand.tmp 0), _, _, _, _⟩ : Oper) = o := Option.some.inj ho
            have hgd := hv 2 68 (by kernel_rfl) (by kernel_rfl) (of_decide_eq_true (by kernel_rfl))
            refine ask_yes 2 68 true rfl (by kernel_rfl) (by rw [hsize]; exact (of_decide_eq_true (by kernel_rfl))) hgd ?_
            have e : b.eval (.tmp 0) = kv := (hstood 0 (by kernel_rfl)).trans rfl
            exact wp_val _ rfl (hK _ _ e (Below.refl _ _))
          · obtain rfl : (⟨some 71, .move (Operand.tmp 6), _, _, _, _⟩ : Oper) = o := Option.some.inj ho
            have hgd := hv 2 68 (by kernel_rfl) (by kernel_rfl) (of_decide_eq_true (by kernel_rfl))
            refine ask_yes 2 68 true rfl (by kernel_rfl) (by rw [hsize]; exact (of_decide_eq_true (by kernel_rfl))) hgd ?_
            have e : b.eval (.tmp 6) = v6 := (hstood 6 (by kernel_rfl)).trans rfl
            exact wp_val _ rfl (hK _ _ e (Below.refl _ _))
          · obtain rfl : (⟨some 72, .call { callee := (Callee.value (Operand.func 58)), args := #[(Operand.tmp 70), (Operand.tmp 71)], argTypes := #[35, 35] }, _, _, _, _⟩ : Oper) = o := Option.some.inj ho
            have hgd := hv 2 68 (by kernel_rfl) (by kernel_rfl) (of_decide_eq_true (by kernel_rfl))
            refine ask_yes 2 68 true rfl (by kernel_rfl) (by rw [hsize]; exact (of_decide_eq_true (by kernel_rfl))) hgd ?_
            have e1 : b.eval (.tmp 70) = kv := hv 4 70 (by kernel_rfl) (by kernel_rfl) (of_decide_eq_true (by kernel_rfl))
            have e2 : b.eval (.tmp 71) = v6 := hv 5 71 (by kernel_rfl) (by kernel_rfl) (of_decide_eq_true (by kernel_rfl))
            have hcall := rmof_any k2 kv L v6 w1 (HKV.out.below hbel) HKL.out (HV6.out.below hbel) HLL.out
            rw [HZ1.out] at hcall
            refine wp_call_fn 58 #[.tmp 70, .tmp 71] #[35, 35] rfl Try.f58 _ Try.func58 (by kernel_rfl) rfl #[kv, v6] (by simp [e1, e2]) (hcall.mono ?_)
            rintro e w2 ⟨rfl, hb2⟩
            exact ⟨_, rfl, hK _ _ rfl hb2⟩
          · obtain rfl : (⟨some 73, .binOp BinOp.eql 25 (Operand.tmp 69) (Operand.tmp 72) 25, _, _, _, _⟩ : Oper) = o := Option.some.inj ho
            have hgd := hv 2 68 (by kernel_rfl) (by kernel_rfl) (of_decide_eq_true (by kernel_rfl))
            refine ask_yes 2 68 true rfl (by kernel_rfl) (by rw [hsize]; exact (of_decide_eq_true (by kernel_rfl))) hgd ?_
            have e0 : b.eval (.tmp 69) = .agg (V8 Z) := hv 3 69 (by kernel_rfl) (by kernel_rfl) (of_decide_eq_true (by kernel_rfl))
            have e1 : b.eval (.tmp 72) = .agg (V8 Z) := hv 6 72 (by kernel_rfl) (by kernel_rfl) (of_decide_eq_true (by kernel_rfl))
            exact wp_val (.bool true) (by simp only [execOp, e0, e1]; simp [go_sem, HEQ.out]) (hK _ _ rfl (Below.refl _ _))
          · obtain rfl : (⟨some 74, .pick (Operand.tmp 68) (Operand.tmp 73) (Operand.const (Value.bool false)), _, _, _, _⟩ : Oper) = o := Option.some.inj ho
            refine ask_plain rfl ?_
            have e0 : b.eval (.tmp 68) = .bool true := hv 2 68 (by kernel_rfl) (by kernel_rfl) (of_decide_eq_true (by kernel_rfl))
            have e1 : b.eval (.tmp 73) = .bool true := hv 7 73 (by kernel_rfl) (by kernel_rfl) (of_decide_eq_true (by kernel_rfl))
            exact wp_val (.bool true) (by simp only [execOp, e0, e1]; rfl) (hK _ _ rfl (Below.refl _ _))
        · intro vs w6 hp hb6
          have v8 : vs 8 = .bool true := hp 8 (by decide)
          have B6 := Lib.hid (B1.out.trans ((HBW5.out.trans (hb6.mono HBW5.out.size)).mono B1.out.size))
          change wpList _ _ _ [_] _ _
          simp only [putD, Act.put, List.setIfInBounds_toArray, List.set_cons_zero, List.set_cons_succ, v8]
          generalize vs 0 = y0, vs 1 = y1, vs 2 = y2, vs 3 = y3, vs 4 = y4, vs 5 = y5, vs 6 = y6, vs 7 = y7
          clear hp hb6 v8
          go_wp2
          go_ret
          exact ⟨rfl, B6.out⟩
end Go.Proofs.Ytjaakhjfpigdfaa
