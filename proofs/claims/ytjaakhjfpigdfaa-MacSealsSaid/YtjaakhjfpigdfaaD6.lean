import Derived.Test.YtjaakhjfpigdfaaD5
/-! MacSeals. -/
namespace Go.Proofs.Ytjaakhjfpigdfaa
open Go.RowKit
set_option linter.unusedVariables false
set_option linter.unusedSimpArgs false
def pdSS (kv bv u1 u2 : Value) (SS OB : By) (E0 : Int) : Nat → Value → World → Prop
  | 0 => fun v w => v = kv
  | 1 => fun v w => v = bv
  | 2 => fun v w => EqN w SS v
  | 3 => fun v w => v = .string (strV SS)
  | 4 => fun v w => v = kv
  | 5 => fun v w => v = bv
  | 6 => fun v w => EqN w SS v
  | 7 => fun v w => v = .string (strV SS)
  | 8 => fun v w => v = .bool true
  | 9 => fun v w => v = .bool true
  | 10 => fun v w => v = u1
  | 11 => fun v w => v = .string (strV OB)
  | 12 => fun v w => v = u2
  | 13 => fun v w => v = .string (strV OB)
  | 14 => fun v w => v = .bool true
  | 15 => fun v w => v = .bool true
  | 16 => fun v w => v = .bool true
  | 17 => fun v w => v = .int .i64 E0
  | 18 => fun v w => v = .int .i64 E0
  | 19 => fun v w => v = .bool true
  | 20 => fun v w => v = .bool true
  | 21 => fun v w => v = .bool true
  | 22 => fun v w => v = .bool true
  | 23 => fun v w => v = .bool true
  | _ => fun _ _ => True
theorem pdSS_mono (kv bv u1 u2 : Value) (SS OB : By) (E0 : Int) : ∀ q0 v w w', pdSS kv bv u1 u2 SS OB E0 q0 v w → Below w.heap.size w w' → pdSS kv bv u1 u2 SS OB E0 q0 v w'
  | 0, _, _, _, h, _ => h
  | 1, _, _, _, h, _ => h
  | 2, _, _, _, h, hb => EqN.below h hb
  | 3, _, _, _, h, _ => h
  | 4, _, _, _, h, _ => h
  | 5, _, _, _, h, _ => h
  | 6, _, _, _, h, hb => EqN.below h hb
  | 7, _, _, _, h, _ => h
  | 8, _, _, _, h, _ => h
  | 9, _, _, _, h, _ => h
  | 10, _, _, _, h, _ => h
  | 11, _, _, _, h, _ => h
  | 12, _, _, _, h, _ => h
  | 13, _, _, _, h, _ => h
  | 14, _, _, _, h, _ => h
  | 15, _, _, _, h, _ => h
  | 16, _, _, _, h, _ => h
  | 17, _, _, _, h, _ => h
  | 18, _, _, _, h, _ => h
  | 19, _, _, _, h, _ => h
  | 20, _, _, _, h, _ => h
  | 21, _, _, _, h, _ => h
  | 22, _, _, _, h, _ => h
  | 23, _, _, _, h, _ => h
  | _ + 24, _, _, _, _, _ => trivial
set_option maxRecDepth 100000 in
set_option maxHeartbeats 8000000 in
theorem macSeals_true (k : By) (A0 : Option Addr) (c0 : Nat) (b : By) (B0 : Option Addr) (d0 : Nat) (w : World) (hr : RdB w A0 k) (hc : k.length ≤ c0) (y0 : k.length * 1 ≤ 140737488351232) (hn : A0 = none → c0 = 0) (hrb : RdB w B0 b) (hd : b.length ≤ d0) (y1 : b.length * 1 ≤ 140737488351232) (hnb : B0 = none → d0 = 0) : Calls Try.prog 13 #[.slice A0 k.length c0, .slice B0 b.length d0] w fun e w' => e = .returned (.bool true) ∧ Below w.heap.size w w' := by
  have hEk : EqN w k (.slice A0 k.length c0) := ⟨A0, c0, rfl, hc, hr, hn⟩
  have hEb : EqN w b (.slice B0 b.length d0) := ⟨B0, d0, rfl, hd, hrb, hnb⟩
  obtain ⟨kv0, hkv0⟩ : ∃ v, Value.slice A0 k.length c0 = v := ⟨_, rfl⟩
  obtain ⟨bv0, hbv0⟩ : ∃ v, Value.slice B0 b.length d0 = v := ⟨_, rfl⟩
  rw [hkv0] at hEk ⊢
  rw [hbv0] at hEb ⊢
  have HC1 := Lib.hid (cut4_any k kv0 w hEk)
  have HC2 := Lib.hid (cut4_any b bv0 w hEb)
  clear hkv0 hbv0 hEk hEb hr hc y0 hn hrb hd y1 hnb
  go_enter Try.func13, Try.ntmps13
  go_wp2_with fail
  refine HC1.out.mono ?_
  rintro e w2 ⟨kv, rfl, hEk, rfl⟩
  have HKV0 := Lib.hid hEk
  clear hEk HC1
  go_wp2_with fail
  refine HC2.out.mono ?_
  rintro e w2 ⟨bv, rfl, hEb, rfl⟩
  have HBV0 := Lib.hid hEb
  clear hEb HC2
  have hkl : (k.take 2000).length ≤ 1000000 := by rw [List.length_take]; omega
  have hbl : (b.take 2000).length ≤ 1000000 := by rw [List.length_take]; omega
  obtain ⟨k2, hk2⟩ : ∃ q, k.take 2000 = q := ⟨_, rfl⟩
  obtain ⟨b2, hb2⟩ : ∃ q, b.take 2000 = q := ⟨_, rfl⟩
  rw [hk2] at hkl HKV0
  rw [hb2] at hbl HBV0
  have HKL := Lib.hid hkl
  have HBL := Lib.hid hbl
  have O1 := Lib.hid (fun (w' : World) (hb : Below w.heap.size w w') => open_any k2 kv b2 bv w' (HKV0.out.below hb) hkl (HBV0.out.below hb) hbl)
  have O2 := Lib.hid (fun (w' : World) (hb : Below w.heap.size w w') => ropen_any k2 kv b2 bv w' (HKV0.out.below hb) hkl (HBV0.out.below hb) hbl)
  obtain ⟨OB, hOB⟩ : ∃ q, openB k2 b2 = q := ⟨_, rfl⟩
  obtain ⟨E0, hE0⟩ : ∃ q, openE k2 b2 = q := ⟨_, rfl⟩
  rw [hOB, hE0] at O1 O2
  obtain ⟨SS, hSS⟩ : ∃ q, b2 ++ macL k2 b2 = q := ⟨_, rfl⟩
  have HSS := Lib.hid hSS
  clear hk2 hb2 hkl hbl hOB hE0 hSS
  go_wp2_with fail
  refine (O1.out w (Below.refl _ _)).mono ?_
  rintro e w3 ⟨u1, rfl, hU1, hb3⟩
  have HU3 := Lib.hid hU1
  have HB3 := Lib.hid hb3
  clear hU1 hb3 O1
  go_wp2_with fail
  refine (O2.out w3 HB3.out).mono ?_
  rintro e w4 ⟨u2, rfl, hU2, hb4⟩
  have HU1 := Lib.hid (HU3.out.below hb4)
  have HU2 := Lib.hid hU2
  have HB4 := Lib.hid (HB3.out.trans (hb4.mono HB3.out.size))
  have HKV := Lib.hid (HKV0.out.below HB4.out)
  have HBV := Lib.hid (HBV0.out.below HB4.out)
  clear hU2 hb4 HU3 HB3 O2
  go_upto_region 4 with (fail)
  refine wp_region_mono (w0 := _) 24 [some 25, some 26, some 27, some 28, some 29, some 30, some 31, some 32, some 33, some 34, some 35, some 36, some 37, some 38, some 39, some 40, some 41, some 42, some 43, some 44, some 45, some 46, some 47, some 48] (by kernel_rfl) (by kernel_rfl) (by kernel_rfl) (by kernel_rfl) (of_decide_eq_true (by kernel_rfl)) (by kernel_rfl) (pdSS kv bv u1 u2 SS OB E0) ?_ ?_ ?_
  · exact pdSS_mono kv bv u1 u2 SS OB E0
  · intro i hi o w1 b ho hbel hv hstood hsize K hK
    have hc : i = 0 ∨ i = 1 ∨ i = 2 ∨ i = 3 ∨ i = 4 ∨ i = 5 ∨ i = 6 ∨ i = 7 ∨ i = 8 ∨ i = 9 ∨ i = 10 ∨ i = 11 ∨ i = 12 ∨ i = 13 ∨ i = 14 ∨ i = 15 ∨ i = 16 ∨ i = 17 ∨ i = 18 ∨ i = 19 ∨ i = 20 ∨ i = 21 ∨ i = 22 ∨ i = 23 := by omega
    rcases hc with rfl | rfl | rfl | rfl | rfl | rfl | rfl | rfl | rfl | rfl | rfl | rfl | rfl | rfl | rfl | rfl | rfl | rfl | rfl | rfl | rfl | rfl | rfl | rfl
    · obtain rfl : (⟨some 25, .move (Operand.tmp 0), _, _, _, _⟩ : Oper) = o := Option.some.inj ho
      refine ask_plain rfl ?_
      have e : b.eval (.tmp 0) = kv := (hstood 0 (by kernel_rfl)).trans rfl
      exact wp_val _ rfl (hK _ _ e (Below.refl _ _))
    · obtain rfl : (⟨some 26, .move (Operand.tmp 1), _, _, _, _⟩ : Oper) = o := Option.some.inj ho
      refine ask_plain rfl ?_
      have e : b.eval (.tmp 1) = bv := (hstood 1 (by kernel_rfl)).trans rfl
      exact wp_val _ rfl (hK _ _ e (Below.refl _ _))
    · obtain rfl : (⟨some 27, .call { callee := (Callee.value (Operand.func 53)), args := #[(Operand.tmp 25), (Operand.tmp 26)], argTypes := #[35, 35] }, _, _, _, _⟩ : Oper) = o := Option.some.inj ho
      refine ask_plain rfl ?_
      have e1 : b.eval (.tmp 25) = kv := hv 0 25 (by kernel_rfl) (by kernel_rfl) (of_decide_eq_true (by kernel_rfl))
      have e2 : b.eval (.tmp 26) = bv := hv 1 26 (by kernel_rfl) (by kernel_rfl) (of_decide_eq_true (by kernel_rfl))
      have hcall := seal_any k2 kv b2 bv w1 (HKV.out.below hbel) HKL.out (HBV.out.below hbel) HBL.out
      rw [HSS.out] at hcall
      refine wp_call_fn 53 #[.tmp 25, .tmp 26] #[35, 35] rfl Try.f53 _ Try.func53 (by kernel_rfl) rfl #[kv, bv] (by simp [e1, e2]) (hcall.mono ?_)
      rintro e w2 ⟨v, rfl, hown, hb2⟩
      exact ⟨_, rfl, hK _ _ (EqN.own hown) hb2⟩
    · obtain rfl : (⟨some 28, .convert 35 9 (Operand.tmp 27), _, _, _, _⟩ : Oper) = o := Option.some.inj ho
      refine ask_plain rfl ?_
      have e1 : EqN w1 SS (b.eval (.tmp 27)) := hv 2 27 (by kernel_rfl) (by kernel_rfl) (of_decide_eq_true (by kernel_rfl))
      have e2 := conv_EqN e1
      exact wp_val (.string (strV SS)) (by simp only [execOp, Sem.run_bind, e2, Result.andThen]; rfl) (hK _ _ rfl (Below.refl _ _))
    · obtain rfl : (⟨some 29, .move (Operand.tmp 0), _, _, _, _⟩ : Oper) = o := Option.some.inj ho
      refine ask_plain rfl ?_
      have e : b.eval (.tmp 0) = kv := (hstood 0 (by kernel_rfl)).trans rfl
      exact wp_val _ rfl (hK _ _ e (Below.refl _ _))
    · obtain rfl : (⟨some 30, .move (Operand.tmp 1), _, _, _, _⟩ : Oper) = o := Option.some.inj ho
      refine ask_plain rfl ?_
      have e : b.eval (.tmp 1) = bv := (hstood 1 (by kernel_rfl)).trans rfl
      exact wp_val _ rfl (hK _ _ e (Below.refl _ _))
    · obtain rfl : (⟨some 31, .call { callee := (Callee.value (Operand.func 54)), args := #[(Operand.tmp 29), (Operand.tmp 30)], argTypes := #[35, 35] }, _, _, _, _⟩ : Oper) = o := Option.some.inj ho
      refine ask_plain rfl ?_
      have e1 : b.eval (.tmp 29) = kv := hv 4 29 (by kernel_rfl) (by kernel_rfl) (of_decide_eq_true (by kernel_rfl))
      have e2 : b.eval (.tmp 30) = bv := hv 5 30 (by kernel_rfl) (by kernel_rfl) (of_decide_eq_true (by kernel_rfl))
      have hcall := rseal_any k2 kv b2 bv w1 (HKV.out.below hbel) HKL.out (HBV.out.below hbel) HBL.out
      rw [HSS.out] at hcall
      refine wp_call_fn 54 #[.tmp 29, .tmp 30] #[35, 35] rfl Try.f54 _ Try.func54 (by kernel_rfl) rfl #[kv, bv] (by simp [e1, e2]) (hcall.mono ?_)
      rintro e w2 ⟨v, rfl, hown, hb2⟩
      exact ⟨_, rfl, hK _ _ (EqN.own hown) hb2⟩
    · obtain rfl : (⟨some 32, .convert 35 9 (Operand.tmp 31), _, _, _, _⟩ : Oper) = o := Option.some.inj ho
      refine ask_plain rfl ?_
      have e1 : EqN w1 SS (b.eval (.tmp 31)) := hv 6 31 (by kernel_rfl) (by kernel_rfl) (of_decide_eq_true (by kernel_rfl))
      have e2 := conv_EqN e1
      exact wp_val (.string (strV SS)) (by simp only [execOp, Sem.run_bind, e2, Result.andThen]; rfl) (hK _ _ rfl (Below.refl _ _))
    · obtain rfl : (⟨some 33, .binOp BinOp.eql 9 (Operand.tmp 28) (Operand.tmp 32) 9, _, _, _, _⟩ : Oper) = o := Option.some.inj ho
      refine ask_plain rfl ?_
      have e0 : b.eval (.tmp 28) = .string (strV SS) := hv 3 28 (by kernel_rfl) (by kernel_rfl) (of_decide_eq_true (by kernel_rfl))
      have e1 : b.eval (.tmp 32) = .string (strV SS) := hv 7 32 (by kernel_rfl) (by kernel_rfl) (of_decide_eq_true (by kernel_rfl))
      exact wp_val (.bool true) (by simp only [execOp, e0, e1]; simp [go_sem]) (hK _ _ rfl (Below.refl _ _))
    · obtain rfl : (⟨some 34, .move (Operand.tmp 33), _, _, _, _⟩ : Oper) = o := Option.some.inj ho
      refine ask_plain rfl ?_
      have e : b.eval (.tmp 33) = .bool true := hv 8 33 (by kernel_rfl) (by kernel_rfl) (of_decide_eq_true (by kernel_rfl))
      exact wp_val _ rfl (hK _ _ e (Below.refl _ _))
    · obtain rfl : (⟨some 35, .move (Operand.tmp 5), _, _, _, _⟩ : Oper) = o := Option.some.inj ho
      have hgd := hv 9 34 (by kernel_rfl) (by kernel_rfl) (of_decide_eq_true (by kernel_rfl))
      refine ask_yes 9 34 true rfl (by kernel_rfl) (by rw [hsize]; exact (of_decide_eq_true (by kernel_rfl))) hgd ?_
      have e : b.eval (.tmp 5) = u1 := (hstood 5 (by kernel_rfl)).trans rfl
      exact wp_val _ rfl (hK _ _ e (Below.refl _ _))
    · obtain rfl : (⟨some 36, .convert 35 9 (Operand.tmp 35), _, _, _, _⟩ : Oper) = o := Option.some.inj ho
      have hgd := hv 9 34 (by kernel_rfl) (by kernel_rfl) (of_decide_eq_true (by kernel_rfl))
      refine ask_yes 9 34 true rfl (by kernel_rfl) (by rw [hsize]; exact (of_decide_eq_true (by kernel_rfl))) hgd ?_
      have e1 : b.eval (.tmp 35) = u1 := hv 10 35 (by kernel_rfl) (by kernel_rfl) (of_decide_eq_true (by kernel_rfl))
      have e2 := conv_EqN (HU1.out.below hbel)
      exact wp_val (.string (strV OB)) (by simp only [execOp, Sem.run_bind, e1, e2, Result.andThen]; rfl) (hK _ _ rfl (Below.refl _ _))
    · obtain rfl : (⟨some 37, .move (Operand.tmp 7), _, _, _, _⟩ : Oper) = o := Option.some.inj ho
      have hgd := hv 9 34 (by kernel_rfl) (by kernel_rfl) (of_decide_eq_true (by kernel_rfl))
      refine ask_yes 9 34 true rfl (by kernel_rfl) (by rw [hsize]; exact (of_decide_eq_true (by kernel_rfl))) hgd ?_
      have e : b.eval (.tmp 7) = u2 := (hstood 7 (by kernel_rfl)).trans rfl
      exact wp_val _ rfl (hK _ _ e (Below.refl _ _))
    · obtain rfl : (⟨some 38, .convert 35 9 (Operand.tmp 37), _, _, _, _⟩ : Oper) = o := Option.some.inj ho
      have hgd := hv 9 34 (by kernel_rfl) (by kernel_rfl) (of_decide_eq_true (by kernel_rfl))
      refine ask_yes 9 34 true rfl (by kernel_rfl) (by rw [hsize]; exact (of_decide_eq_true (by kernel_rfl))) hgd ?_
      have e1 : b.eval (.tmp 37) = u2 := hv 12 37 (by kernel_rfl) (by kernel_rfl) (of_decide_eq_true (by kernel_rfl))
      have e2 := conv_EqN (HU2.out.below hbel)
      exact wp_val (.string (strV OB)) (by simp only [execOp, Sem.run_bind, e1, e2, Result.andThen]; rfl) (hK _ _ rfl (Below.refl _ _))
    · obtain rfl : (⟨some 39, .binOp BinOp.eql 9 (Operand.tmp 36) (Operand.tmp 38) 9, _, _, _, _⟩ : Oper) = o := Option.some.inj ho
      have hgd := hv 9 34 (by kernel_rfl) (by kernel_rfl) (of_decide_eq_true (by kernel_rfl))
      refine ask_yes 9 34 true rfl (by kernel_rfl) (by rw [hsize]; exact (of_decide_eq_true (by kernel_rfl))) hgd ?_
      have e0 : b.eval (.tmp 36) = .string (strV OB) := hv 11 36 (by kernel_rfl) (by kernel_rfl) (of_decide_eq_true (by kernel_rfl))
      have e1 : b.eval (.tmp 38) = .string (strV OB) := hv 13 38 (by kernel_rfl) (by kernel_rfl) (of_decide_eq_true (by kernel_rfl))
      exact wp_val (.bool true) (by simp only [execOp, e0, e1]; simp [go_sem]) (hK _ _ rfl (Below.refl _ _))
    · obtain rfl : (⟨some 40, .pick (Operand.tmp 34) (Operand.tmp 39) (Operand.const (Value.bool false)), _, _, _, _⟩ : Oper) = o := Option.some.inj ho
      refine ask_plain rfl ?_
      have e0 : b.eval (.tmp 34) = .bool true := hv 9 34 (by kernel_rfl) (by kernel_rfl) (of_decide_eq_true (by kernel_rfl))
      have e1 : b.eval (.tmp 39) = .bool true := hv 14 39 (by kernel_rfl) (by kernel_rfl) (of_decide_eq_true (by kernel_rfl))
      exact wp_val (.bool true) (by simp only [execOp, e0, e1]; rfl) (hK _ _ rfl (Below.refl _ _))
    · obtain rfl : (⟨some 41, .move (Operand.tmp 40), _, _, _, _⟩ : Oper) = o := Option.some.inj ho
      refine ask_plain rfl ?_
      have e : b.eval (.tmp 40) = .bool true := hv 15 40 (by kernel_rfl) (by kernel_rfl) (of_decide_eq_true (by kernel_rfl))
      exact wp_val _ rfl (hK _ _ e (Below.refl _ _))
    · obtain rfl : (⟨some 42, .move (Operand.tmp 6), _, _, _, _⟩ : Oper) = o := Option.some.inj ho
      have hgd := hv 16 41 (by kernel_rfl) (by kernel_rfl) (of_decide_eq_true (by kernel_rfl))
      refine ask_yes 16 41 true rfl (by kernel_rfl) (by rw [hsize]; exact (of_decide_eq_true (by kernel_rfl))) hgd ?_
      have e : b.eval (.tmp 6) = .int .i64 E0 := (hstood 6 (by kernel_rfl)).trans rfl
      exact wp_val _ rfl (hK _ _ e (Below.refl _ _))
    · obtain rfl : (⟨some 43, .move (Operand.tmp 8), _, _, _, _⟩ : Oper) = o := Option.some.inj ho
      have hgd := hv 16 41 (by kernel_rfl) (by kernel_rfl) (of_decide_eq_true (by kernel_rfl))
      refine ask_yes 16 41 true rfl (by kernel_rfl) (by rw [hsize]; exact (of_decide_eq_true (by kernel_rfl))) hgd ?_
      have e : b.eval (.tmp 8) = .int .i64 E0 := (hstood 8 (by kernel_rfl)).trans rfl
      exact wp_val _ rfl (hK _ _ e (Below.refl _ _))
    · obtain rfl : (⟨some 44, .binOp BinOp.eql 44 (Operand.tmp 42) (Operand.tmp 43) 44, _, _, _, _⟩ : Oper) = o := Option.some.inj ho
      have hgd := hv 16 41 (by kernel_rfl) (by kernel_rfl) (of_decide_eq_true (by kernel_rfl))
      refine ask_yes 16 41 true rfl (by kernel_rfl) (by rw [hsize]; exact (of_decide_eq_true (by kernel_rfl))) hgd ?_
      have e0 : b.eval (.tmp 42) = .int .i64 E0 := hv 17 42 (by kernel_rfl) (by kernel_rfl) (of_decide_eq_true (by kernel_rfl))
      have e1 : b.eval (.tmp 43) = .int .i64 E0 := hv 18 43 (by kernel_rfl) (by kernel_rfl) (of_decide_eq_true (by kernel_rfl))
      exact wp_val (.bool true) (by simp only [execOp, e0, e1]; simp [go_sem]) (hK _ _ rfl (Below.refl _ _))
    · obtain rfl : (⟨some 45, .pick (Operand.tmp 41) (Operand.tmp 44) (Operand.const (Value.bool false)), _, _, _, _⟩ : Oper) = o := Option.some.inj ho
      refine ask_plain rfl ?_
      have e0 : b.eval (.tmp 41) = .bool true := hv 16 41 (by kernel_rfl) (by kernel_rfl) (of_decide_eq_true (by kernel_rfl))
      have e1 : b.eval (.tmp 44) = .bool true := hv 19 44 (by kernel_rfl) (by kernel_rfl) (of_decide_eq_true (by kernel_rfl))
      exact wp_val (.bool true) (by simp only [execOp, e0, e1]; rfl) (hK _ _ rfl (Below.refl _ _))
    · obtain rfl : (⟨some 46, .move (Operand.tmp 45), _, _, _, _⟩ : Oper) = o := Option.some.inj ho
      refine ask_plain rfl ?_
      have e : b.eval (.tmp 45) = .bool true := hv 20 45 (by kernel_rfl) (by kernel_rfl) (of_decide_eq_true (by kernel_rfl))
      exact wp_val _ rfl (hK _ _ e (Below.refl _ _))
    · obtain rfl : (⟨some 47, .call { callee := (Callee.value (Operand.func 44)), args := #[], argTypes := #[] }, _, _, _, _⟩ : Oper) = o := Option.some.inj ho
      have hgd := hv 21 46 (by kernel_rfl) (by kernel_rfl) (of_decide_eq_true (by kernel_rfl))
      refine ask_yes 21 46 true rfl (by kernel_rfl) (by rw [hsize]; exact (of_decide_eq_true (by kernel_rfl))) hgd ?_
      refine wp_call_fn 44 #[] #[] rfl Try.f44 _ Try.func44 (by kernel_rfl) rfl #[] (by simp) ((awake4_any w1).mono ?_)
      rintro e w2 ⟨rfl, hb2⟩
      exact ⟨_, rfl, hK _ _ rfl hb2⟩
    · obtain rfl : (⟨some 48, .pick (Operand.tmp 46) (Operand.tmp 47) (Operand.const (Value.bool false)), _, _, _, _⟩ : Oper) = o := Option.some.inj ho
      refine ask_plain rfl ?_
      have e0 : b.eval (.tmp 46) = .bool true := hv 21 46 (by kernel_rfl) (by kernel_rfl) (of_decide_eq_true (by kernel_rfl))
      have e1 : b.eval (.tmp 47) = .bool true := hv 22 47 (by kernel_rfl) (by kernel_rfl) (of_decide_eq_true (by kernel_rfl))
      exact wp_val (.bool true) (by simp only [execOp, e0, e1]; rfl) (hK _ _ rfl (Below.refl _ _))
  · intro vs w5 hp hb5
    have HB5 := Lib.hid (HB4.out.trans (hb5.mono HB4.out.size))
    have v23 : vs 23 = .bool true := hp 23 (by decide)
    change wpList _ _ _ [_] _ _
    simp only [putD, Act.put, List.setIfInBounds_toArray, List.set_cons_zero, List.set_cons_succ, v23]
    generalize vs 0 = y0, vs 1 = y1, vs 2 = y2, vs 3 = y3
    clear hp hb5
    go_wp2
    go_ret
    exact ⟨rfl, HB5.out⟩
end Go.Proofs.Ytjaakhjfpigdfaa
