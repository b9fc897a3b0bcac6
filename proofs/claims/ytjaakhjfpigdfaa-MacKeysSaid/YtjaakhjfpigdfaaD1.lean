import Derived.Test.YtjaakhjfpigdfaaCA
/-! MacKeys. -/
namespace Go.Proofs.Ytjaakhjfpigdfaa
open Go.RowKit
set_option linter.unusedVariables false
set_option linter.unusedSimpArgs false
set_option maxRecDepth 100000 in
theorem run_len35 (A : Option Addr) (n c : Nat) (ty : TypeId) (w : World) : (Builtin.len_ #[35] ty #[.slice A n c]).run Try.prog w = .ok (.int .i64 (n : Int)) w := by
  simp [go_sem, Try.underlying35]
theorem wp_len35 {w : World} {o : Oper} {a : Act} {K : Act → World → Prop} {Q : Exit → Act → World → Prop} (x : Operand) (ho : o.op = .call { callee := .builtin .len, args := #[x], argTypes := #[35] }) (A : Option Addr) (n c : Nat) (hx : a.eval x = .slice A n c) (h : K (a.put o.dst (.int .i64 (n : Int))) w) : o.wp Try.prog a w K Q := by
  unfold Oper.wp execOp
  simp only [ho, resolve, invoke, builtin, Sem.run_bind, Sem.run_pure, Result.andThen_ok, List.map_toArray, List.map_cons, List.map_nil, hx, run_len35]
  exact h
def pdKA (A : Option Addr) (n c : Nat) (bv : Value) (b Z : By) (g5 : Nat) : Nat → Value → World → Prop
  | 0 => fun v w => v = .slice A n c
  | 1 => fun v w => v = .int .i64 (n : Int)
  | 2 => fun v w => v = .bool false
  | 3 => fun v w => v = .bool false
  | 4 => fun v w => v = .slice A n c
  | 5 => fun v w => v = bv
  | 6 => fun v w => ∃ g, v = .slice (some ⟨g, 0, none⟩) 1 1 ∧ RdN w (some ⟨g, 0, none⟩) [b]
  | 7 => fun v w => v = .agg (V8 Z)
  | 8 => fun v w => v = .slice (some ⟨g5, 0, none⟩) 32 32
  | 9 => fun v w => v = bv
  | 10 => fun v w => ∃ g, v = .slice (some ⟨g, 0, none⟩) 1 1 ∧ RdN w (some ⟨g, 0, none⟩) [b]
  | 11 => fun v w => v = .agg (V8 Z)
  | 12 => fun v w => v = .bool true
  | _ => fun _ _ => True
theorem pdKA_mono (A : Option Addr) (n c : Nat) (bv : Value) (b Z : By) (g5 : Nat) : ∀ q0 v w w', pdKA A n c bv b Z g5 q0 v w → Below w.heap.size w w' → pdKA A n c bv b Z g5 q0 v w'
  | 0, _, _, _, h, _ => h
  | 1, _, _, _, h, _ => h
  | 2, _, _, _, h, _ => h
  | 3, _, _, _, h, _ => h
  | 4, _, _, _, h, _ => h
  | 5, _, _, _, h, _ => h
  | 6, _, _, _, h, hb => by obtain ⟨g, e, h2⟩ := h; exact ⟨g, e, h2.below hb⟩
  | 7, _, _, _, h, _ => h
  | 8, _, _, _, h, _ => h
  | 9, _, _, _, h, _ => h
  | 10, _, _, _, h, hb => by obtain ⟨g, e, h2⟩ := h; exact ⟨g, e, h2.below hb⟩
  | 11, _, _, _, h, _ => h
  | 12, _, _, _, h, _ => h
  | _ + 13, _, _, _, _, _ => trivial
def pdKB (A : Option Addr) (c : Nat) : Nat → Value → World → Prop
  | 0 => fun v w => v = .slice A 64 c
  | 1 => fun v w => v = .int .i64 64
  | 2 => fun v w => v = .bool true
  | 3 => fun v w => v = .bool true
  | 4 => fun v w => v = undef
  | 5 => fun v w => v = undef
  | 6 => fun v w => v = undef
  | 7 => fun v w => v = undef
  | 8 => fun v w => v = undef
  | 9 => fun v w => v = undef
  | 10 => fun v w => v = undef
  | 11 => fun v w => v = undef
  | 12 => fun v w => v = undef
  | _ => fun _ _ => True
theorem pdKB_mono (A : Option Addr) (c : Nat) : ∀ q0 v w w', pdKB A c q0 v w → Below w.heap.size w w' → pdKB A c q0 v w'
  | 0, _, _, _, h, _ => h
  | 1, _, _, _, h, _ => h
  | 2, _, _, _, h, _ => h
  | 3, _, _, _, h, _ => h
  | 4, _, _, _, h, _ => h
  | 5, _, _, _, h, _ => h
  | 6, _, _, _, h, _ => h
  | 7, _, _, _, h, _ => h
  | 8, _, _, _, h, _ => h
  | 9, _, _, _, h, _ => h
  | 10, _, _, _, h, _ => h
  | 11, _, _, _, h, _ => h
  | 12, _, _, _, h, _ => h
  | _ + 13, _, _, _, _, _ => trivial
set_option maxRecDepth 100000 in
set_option maxHeartbeats 8000000 in
theorem macKeys_true (k : By) (A0 : Option Addr) (c0 : Nat) (b : By) (B0 : Option Addr) (d0 : Nat) (w : World) (hr : RdB w A0 k) (hc : k.length ≤ c0) (y0 : k.length * 1 ≤ 140737488351232) (hn : A0 = none → c0 = 0) (hrb : RdB w B0 b) (hd : b.length ≤ d0) (y1 : b.length * 1 ≤ 140737488351232) (hnb : B0 = none → d0 = 0) : Calls Try.prog 10 #[.slice A0 k.length c0, .slice B0 b.length d0] w fun e w' => e = .returned (.bool true) ∧ Below w.heap.size w w' := by
  obtain ⟨i35, hi35', hz35', hs35', hb35⟩ := info_parts info35
  obtain ⟨i0, hi0', hz0', hz1', hz2'⟩ := info_parts info5
  have HI35 := Lib.hid hi35'
  have HZ35 := Lib.hid hz35'
  have HS35 := Lib.hid hs35'
  have HI0 := Lib.hid hi0'
  have HZ0 := Lib.hid hz0'
  have HZ1' := Lib.hid hz1'
  have HZ2' := Lib.hid hz2'
  have hz32 := zeros32
  have hzs32 : (V8 (List.replicate 32 0)).size = 32 := by rw [V8_size]; rfl
  obtain ⟨Zr, hZr⟩ : ∃ Z, V8 (List.replicate 32 0) = Z := ⟨_, rfl⟩
  rw [hZr] at hz32 hzs32
  have HZ32 := Lib.hid hz32
  have HZS32 := Lib.hid hzs32
  have hEk : EqN w k (.slice A0 k.length c0) := ⟨A0, c0, rfl, hc, hr, hn⟩
  have hEb : EqN w b (.slice B0 b.length d0) := ⟨B0, d0, rfl, hd, hrb, hnb⟩
  obtain ⟨kv0, hkv0⟩ : ∃ v, Value.slice A0 k.length c0 = v := ⟨_, rfl⟩
  obtain ⟨bv0, hbv0⟩ : ∃ v, Value.slice B0 b.length d0 = v := ⟨_, rfl⟩
  rw [hkv0] at hEk ⊢
  rw [hbv0] at hEb ⊢
  have HEK := Lib.hid hEk
  have HEB := Lib.hid hEb
  have AW := Lib.hid (awake4_any w)
  have HC1 := Lib.hid (fun (w' : World) (hb : Below w.heap.size w w') => cut4_any k kv0 w' (hEk.below hb))
  have HC2 := Lib.hid (fun (w' : World) (hb : Below w.heap.size w w') => cut4_any b bv0 w' (hEb.below hb))
  clear hz32 hzs32 hZr hi35' hz35' hs35' hb35 hi0' hz0' hz1' hz2' hkv0 hbv0 hEk hEb hr hc y0 hn hrb hd y1 hnb
  go_enter Try.func10, Try.ntmps10
  go_wp2_with fail
  refine AW.out.mono ?_
  rintro e w1 ⟨rfl, hb1⟩
  have B1 := Lib.hid hb1
  clear AW hb1
  go_wp2_with fail
  refine (HC1.out w1 B1.out).mono ?_
  rintro e w2 ⟨kv, rfl, hEk, rfl⟩
  have HEK1 := Lib.hid hEk
  clear hEk HC1
  go_wp2_with fail
  refine (HC2.out w1 B1.out).mono ?_
  rintro e w2 ⟨bv, rfl, hEb, rfl⟩
  have HEB1 := Lib.hid hEb
  clear hEb HC2 HEK HEB
  have hkl : (k.take 2000).length ≤ 2000 := by rw [List.length_take]; omega
  have hbl : (b.take 2000).length ≤ 2000 := by rw [List.length_take]; omega
  obtain ⟨k2, hk2⟩ : ∃ q, k.take 2000 = q := ⟨_, rfl⟩
  obtain ⟨b2, hb2⟩ : ∃ q, b.take 2000 = q := ⟨_, rfl⟩
  rw [hk2] at hkl HEK1
  rw [hb2] at hbl HEB1
  clear hk2 hb2
  obtain ⟨A, c, rfl, hc, hr, hn⟩ := HEK1.out
  obtain ⟨B, d, rfl, hd, hrb, hnb⟩ := HEB1.out
  obtain ⟨n, hkn⟩ : ∃ n, k2.length = n := ⟨_, rfl⟩
  obtain ⟨m, hbm⟩ : ∃ n, b2.length = n := ⟨_, rfl⟩
  rw [hkn] at hkl hc HEK1 ⊢
  rw [hbm] at hbl hd HEB1 ⊢
  have HKN := Lib.hid hkn
  have HBM := Lib.hid hbm
  have HR := Lib.hid hr
  have HN := Lib.hid hn
  have hml := macL_len k2 b2
  obtain ⟨Z, hZ⟩ : ∃ Z, macL k2 b2 = Z := ⟨_, rfl⟩
  rw [hZ] at hml
  have HZ1 := Lib.hid hZ
  have HEQ := Lib.hid (fun w => eq_dig 25 Try.underlying25 Z Z hml hml w)
  rw [show (Z == Z) = true by simp] at HEQ
  clear hkn hbm hr hn hrb hnb hml hZ
  by_cases hlt : n < 64
  · have hlI : (n : Int) < 64 := by omega
    have HZ2 := Lib.hid (show macL (k2 ++ [0]) b2 = Z by rw [← HZ1.out]; unfold macL; rw [keyB_zero k2 (by rw [HKN.out]; exact hlt)])
    have S1 := Lib.hid (msum1_any k2 (.slice A n c) b2 (.slice B m d) w1 HEK1.out (by rw [HKN.out]; omega) HEB1.out (by rw [HBM.out]; omega))
    rw [HZ1.out] at S1
    go_wp2_with fail
    refine S1.out.mono ?_
    rintro e w3 ⟨rfl, hb3⟩
    have HR3 := Lib.hid (show RdB w3 A k2 from HR.out.below hb3 (fun _ _ h => h))
    have HEB3 := Lib.hid (HEB1.out.below hb3)
    have B3 := Lib.hid (B1.out.trans (hb3.mono B1.out.size))
    have hi0 := HI0.out
    have hz0 := HZ0.out
    have hz1 := HZ1'.out
    have hz2 := HZ2'.out
    clear S1 hb3 HR B1
    go_wp2_with (first | ((with_reducible show wpList _ _ _ (⟨some 19, .buildSlice 35 0 #[], _, _, _, _⟩ :: _) _ _); refine wpList_buildSlice0 rfl 35 5 rfl i0 Try.underlying35 HI0.out ?_; try simp only [Act.put, List.setIfInBounds_toArray, List.set_cons_zero, List.set_cons_succ]; obtain ⟨W4, hW4⟩ : ∃ W, w3.alloc (.cells #[] 5) = W := ⟨_, rfl⟩; have HB4 := Lib.hid (show Below w3.heap.size w3 W4 by rw [← hW4]; exact below_alloc1 _ _); have OZ := Lib.hid (show W4.ownsRow w3.heap.size 5 1 (.slice (some ⟨w3.heap.size, 0, none⟩) 0 0) 0 [] by rw [← hW4]; exact own_zero (heap_new _ _ _ rfl) (Nat.le_refl _)); have HR4 := Lib.hid (show RdB W4 A k2 from HR3.out.below HB4.out (fun _ _ h => h)); rw [hW4]; clear hW4) | (at_builtin; refine wpList_append_bytes rfl (.tmp 19) (.tmp 20) rfl w3.heap.size _ 0 [] rfl OZ.out A c k2 (by rw [HKN.out]; rfl) HR4.out HN.out (by rw [HKN.out]; exact hc) (by rw [HKN.out]; omega) HB4.out.size ?_; intro v21 w5 hown hgrow _; have hb5 : Below w3.heap.size w3 w5 := HB4.out.trans ((Below.refl _ _).grown hgrow HB4.out.size (own_base' OZ.out)); have HO5 := Lib.hid hown; have HB5 := Lib.hid hb5; have hs5 := hb5.size; clear hown hgrow hb5) | (at_builtin; refine wpList_append_own _ rfl (.tmp 21) (.tmp 22) 35 rfl w3.heap.size 5 i0 (.int .u8 0) 1 1 Try.underlying35 hi0 hz0 hz1 hz2 rfl (by decide) _ _ _ rfl (HO5.out.alloc _) ⟨w5.heap.size, 0, none⟩ 1 1 [.int .u8 0] rfl rfl (cell_one_at _ _ _ _ rfl) (oneB _) (by rw [HKN.out]; unfold maxLen; omega) (by rw [HKN.out]; omega) (by simp; omega) ?_; intro v23 w6 hown' hgrow _; have hb6 : Below w3.heap.size w3 w6 := (HB5.out.alloc hs5 _).grown hgrow (by simp; omega) (own_base' HO5.out); have HO6 : Hid (EqN w6 (k2 ++ [0]) v23) := Lib.hid (by have h := hown'; rw [List.nil_append, show (Value.int IntKind.u8 0) = Value.int IntKind.u8 ((0#8).toNat : Int) from rfl, bytesV_snoc] at h; exact EqN.own h); have HB6 := Lib.hid hb6; clear hown' hgrow hb6) | fail)
    have S2 := Lib.hid (msum1_any (k2 ++ [0]) v23 b2 (.slice B m d) w6 HO6.out (by rw [List.length_append, HKN.out]; simp; omega) (HEB3.out.below HB6.out) (by rw [HBM.out]; omega))
    rw [HZ2.out] at S2
    have B6 := Lib.hid (B3.out.trans (HB6.out.mono B3.out.size))
    clear HO6 HB6 HO5 HB5 HEB3 B3 HR3 HR4 OZ HB4
    refine S2.out.mono ?_
    rintro e w7 ⟨rfl, hb7⟩
    have B7 := Lib.hid (B6.out.trans (hb7.mono B6.out.size))
    have heq := HEQ.out
    clear S2 hb7 B6
    go_wp2
    go_ret
    exact ⟨rfl, B7.out⟩
  · have hdec : decide ((n : Int) < 64) = false := by simp; omega
    have S1 := Lib.hid (rof_any k2 (.slice A n c) w1 HEK1.out (by rw [HKN.out]; omega))
    have hDl := sumL_len k2
    have hkb := keyB_sum k2
    obtain ⟨D, hD⟩ : ∃ D, sumL k2 = D := ⟨_, rfl⟩
    rw [hD] at S1 hDl hkb
    have HKB := Lib.hid hkb
    have HDL := Lib.hid (show D.length ≤ 1000000 by omega)
    have HDL2 := Lib.hid hDl
    have HSD := Lib.hid (show (Try.prog.info? 24).map (·.size) = some (V8 D).size by rw [V8_size, hDl]; kernel_rfl)
    have HZD := Lib.hid (show Zr.size = (V8 D).size by rw [V8_size, hDl]; exact HZS32.out)
    clear hDl hkb hD
    go_wp2_with fail
    refine S1.out.mono ?_
    rintro e w3 ⟨rfl, hb3⟩
    have HKV3 := Lib.hid (HEK1.out.below hb3)
    have HBV3 := Lib.hid (HEB1.out.below hb3)
    have B3 := Lib.hid (B1.out.trans (hb3.mono B1.out.size))
    clear S1 hb3 HR B1 HEK1 HEB1
    go_upto_region 7 with (first | ((with_reducible show wpList _ _ _ (⟨none, .store 24 (.tmp 5) (.tmp 29), _, _, _, _⟩ :: _) _ _); rw [← HZ32.out]; refine wpList_store_row rfl 24 (.tmp 5) (.tmp 29) rfl w3.heap.size (V8 D) rfl rfl 24 _ (heap_new _ _ _ rfl) HSD.out HZD.out (V8_one _) ?_) | fail)
    generalize hW4 : (World.setRow _ _ _) = W4
    obtain ⟨g5, hg5⟩ : ∃ g, w3.heap.size = g := ⟨_, rfl⟩
    have b4 : Below w3.heap.size w3 W4 := by rw [← hW4]; exact below_setRow _ _ ((Below.refl _ _).alloc (Nat.le_refl _) _) (Nat.le_refl _)
    have HDV := Lib.hid (EqN.arr (show W4.heap[g5]? = some (.cells (V8 D) 24 (0, 0)) by rw [← hW4, ← hg5]; exact setRow_heap _ _ _ _ _ _ (heap_new _ _ _ rfl)) 32 HDL2.out (by decide))
    have HKV := Lib.hid (HKV3.out.below b4)
    have HBV := Lib.hid (HBV3.out.below b4)
    have B4 := Lib.hid (B3.out.trans (b4.mono B3.out.size))
    rw [hg5]
    clear hW4 hg5 b4 HKV3 HBV3 B3
    have hfi : Instr.fill (fun i => some (i * 1, 1)) ((Array.range (1 * 1)).map ((Value.slice none 0 0).cells[· % (Value.slice none 0 0).cells.size]!)) [(0, .slice B m d)] = some #[.slice B m d] := by kernel_rfl
    obtain ⟨bv, hbv⟩ : ∃ v, Value.slice B m d = v := ⟨_, rfl⟩
    rw [hbv] at HBV hfi ⊢
    have HFI := Lib.hid hfi
    have hi35 := HI35.out
    have hz35 := HZ35.out
    have hs35 := HS35.out
    clear hbv hfi
    by_cases h64 : n = 64
    · subst h64
      refine wp_region_mono (w0 := _) 13 [some 30, some 31, some 32, some 33, some 34, some 35, some 36, some 37, some 38, some 39, some 40, some 41, some 42] (by kernel_rfl) (by kernel_rfl) (by kernel_rfl) (by kernel_rfl) (of_decide_eq_true (by kernel_rfl)) (by kernel_rfl) (pdKB A c) ?_ ?_ ?_
      · exact pdKB_mono A c
      · intro i hi o w1 b ho hbel hv hstood hsize K hK
        have hc : i = 0 ∨ i = 1 ∨ i = 2 ∨ i = 3 ∨ i = 4 ∨ i = 5 ∨ i = 6 ∨ i = 7 ∨ i = 8 ∨ i = 9 ∨ i = 10 ∨ i = 11 ∨ i = 12 := by omega
        rcases hc with rfl | rfl | rfl | rfl | rfl | rfl | rfl | rfl | rfl | rfl | rfl | rfl | rfl
        · obtain rfl : (⟨some 30, .move (Operand.tmp 0), _, _, _, _⟩ : Oper) = o := Option.some.inj ho
          refine ask_plain rfl ?_
          have e : b.eval (.tmp 0) = .slice A 64 c := (hstood 0 (by kernel_rfl)).trans rfl
          exact wp_val _ rfl (hK _ _ e (Below.refl _ _))
        · obtain rfl : (⟨some 31, .call { callee := (Callee.builtin Builtin.len), args := #[(Operand.tmp 30)], argTypes := #[35] }, _, _, _, _⟩ : Oper) = o := Option.some.inj ho
          refine ask_plain rfl ?_
          have e0 : b.eval (.tmp 30) = .slice A 64 c := hv 0 30 (by kernel_rfl) (by kernel_rfl) (of_decide_eq_true (by kernel_rfl))
          exact wp_len35 (.tmp 30) rfl A 64 c e0 (hK _ _ rfl (Below.refl _ _))
        · obtain rfl : (⟨some 32, .binOp BinOp.eql 3 (Operand.tmp 31) (Operand.const (Value.int IntKind.i64 64)) 3, _, _, _, _⟩ : Oper) = o := Option.some.inj ho
          refine ask_plain rfl ?_
          have e0 : b.eval (.tmp 31) = .int .i64 64 := hv 1 31 (by kernel_rfl) (by kernel_rfl) (of_decide_eq_true (by kernel_rfl))
          exact wp_val (.bool true) (by simp only [execOp, e0]; rfl) (hK _ _ rfl (Below.refl _ _))
        · obtain rfl : (⟨some 33, .move (Operand.tmp 32), _, _, _, _⟩ : Oper) = o := Option.some.inj ho
          refine ask_plain rfl ?_
          have e : b.eval (.tmp 32) = .bool true := hv 2 32 (by kernel_rfl) (by kernel_rfl) (of_decide_eq_true (by kernel_rfl))
          exact wp_val _ rfl (hK _ _ e (Below.refl _ _))
        · obtain rfl : (⟨some 34, .move (Operand.tmp 0), _, _, _, _⟩ : Oper) = o := Option.some.inj ho
          have hgd := hv 3 33 (by kernel_rfl) (by kernel_rfl) (of_decide_eq_true (by kernel_rfl))
          refine ask_no 3 33 false true rfl (by kernel_rfl) (by rw [hsize]; exact (of_decide_eq_true (by kernel_rfl))) hgd (by decide) ?_
          exact hK _ _ rfl (Below.refl _ _)
        · obtain rfl : (⟨some 35, .move (Operand.tmp 1), _, _, _, _⟩ : Oper) = o := Option.some.inj ho
          have hgd := hv 3 33 (by kernel_rfl) (by kernel_rfl) (of_decide_eq_true (by kernel_rfl))
          refine ask_no 3 33 false true rfl (by kernel_rfl) (by rw [hsize]; exact (of_decide_eq_true (by kernel_rfl))) hgd (by decide) ?_
          exact hK _ _ rfl (Below.refl _ _)
        · obtain rfl : (⟨some 36, .buildSlice 22 1 #[(0, (Operand.tmp 35))], _, _, _, _⟩ : Oper) = o := Option.some.inj ho
          have hgd := hv 3 33 (by kernel_rfl) (by kernel_rfl) (of_decide_eq_true (by kernel_rfl))
          refine ask_no 3 33 false true rfl (by kernel_rfl) (by rw [hsize]; exact (of_decide_eq_true (by kernel_rfl))) hgd (by decide) ?_
          exact hK _ _ rfl (Below.refl _ _)
        · obtain rfl : (⟨some 37, .call { callee := (Callee.value (Operand.func 46)), args := #[(Operand.tmp 34), (Operand.tmp 36)], argTypes := #[35, 22] }, _, _, _, _⟩ : Oper) = o := Option.some.inj ho
          have hgd := hv 3 33 (by kernel_rfl) (by kernel_rfl) (of_decide_eq_true (by kernel_rfl))
          refine ask_no 3 33 false true rfl (by kernel_rfl) (by rw [hsize]; exact (of_decide_eq_true (by kernel_rfl))) hgd (by decide) ?_
          exact hK _ _ rfl (Below.refl _ _)
        · obtain rfl : (⟨some 38, .slice 24 (Operand.tmp 5) none none none, _, _, _, _⟩ : Oper) = o := Option.some.inj ho
          have hgd := hv 3 33 (by kernel_rfl) (by kernel_rfl) (of_decide_eq_true (by kernel_rfl))
          refine ask_no 3 33 false true rfl (by kernel_rfl) (by rw [hsize]; exact (of_decide_eq_true (by kernel_rfl))) hgd (by decide) ?_
          exact hK _ _ rfl (Below.refl _ _)
        · obtain rfl : (⟨some 39, .move (Operand.tmp 1), _, _, _, _⟩ : Oper) = o := Option.some.inj ho
          have hgd := hv 3 33 (by kernel_rfl) (by kernel_rfl) (of_decide_eq_true (by kernel_rfl))
          refine ask_no 3 33 false true rfl (by kernel_rfl) (by rw [hsize]; exact (of_decide_eq_true (by kernel_rfl))) hgd (by decide) ?_
          exact hK _ _ rfl (Below.refl _ _)
        · obtain rfl : (⟨some 40, .buildSlice 22 1 #[(0, (Operand.tmp 39))], _, _, _, _⟩ : Oper) = o := Option.some.inj ho
          have hgd := hv 3 33 (by kernel_rfl) (by kernel_rfl) (of_decide_eq_true (by kernel_rfl))
          refine ask_no 3 33 false true rfl (by kernel_rfl) (by rw [hsize]; exact (of_decide_eq_true (by kernel_rfl))) hgd (by decide) ?_
          exact hK _ _ rfl (Below.refl _ _)
        · obtain rfl : (⟨some 41, .call { callee := (Callee.value (Operand.func 46)), args := #[(Operand.tmp 38), (Operand.tmp 40)], argTypes := #[35, 22] }, _, _, _, _⟩ : Oper) = o := Option.some.inj ho
          have hgd := hv 3 33 (by kernel_rfl) (by kernel_rfl) (of_decide_eq_true (by kernel_rfl))
          refine ask_no 3 33 false true rfl (by kernel_rfl) (by rw [hsize]; exact (of_decide_eq_true (by kernel_rfl))) hgd (by decide) ?_
          exact hK _ _ rfl (Below.refl _ _)
        · obtain rfl : (⟨some 42, .binOp BinOp.eql 25 (Operand.tmp 37) (Operand.tmp 41) 25, _, _, _, _⟩ : Oper) = o := Option.some.inj ho
          have hgd := hv 3 33 (by kernel_rfl) (by kernel_rfl) (of_decide_eq_true (by kernel_rfl))
          refine ask_no 3 33 false true rfl (by kernel_rfl) (by rw [hsize]; exact (of_decide_eq_true (by kernel_rfl))) hgd (by decide) ?_
          exact hK _ _ rfl (Below.refl _ _)
      · intro vs w9 hp hb9
        have v0 : vs 0 = .slice A 64 c := hp 0 (by decide)
        have v1 : vs 1 = .int .i64 64 := hp 1 (by decide)
        have v2 : vs 2 = .bool true := hp 2 (by decide)
        have v3 : vs 3 = .bool true := hp 3 (by decide)
        have B9 := Lib.hid (B4.out.trans (hb9.mono B4.out.size))
        change wpList _ _ _ [_, _] _ _
        simp only [putD, Act.put, List.setIfInBounds_toArray, List.set_cons_zero, List.set_cons_succ, v0, v1, v2, v3]
        generalize vs 4 = y4, vs 5 = y5, vs 6 = y6, vs 7 = y7, vs 8 = y8, vs 9 = y9, vs 10 = y10, vs 11 = y11, vs 12 = y12
        clear v0 v1 v2 v3 hp hb9 B4
        go_wp2
        go_ret
        exact ⟨rfl, B9.out⟩
    · have hne64 : ¬ (n : Int) = 64 := by omega
      have HZ2 := Lib.hid (show macL D b2 = Z by rw [← HZ1.out]; unfold macL; rw [HKB.out (by rw [HKN.out]; omega)])
      have HKL := Lib.hid (show k2.length ≤ 1000000 by rw [HKN.out]; omega)
      have hbm2 : b2.length ≤ 2000 := by rw [HBM.out]; exact hbl
      refine wp_region_mono (w0 := _) 13 [some 30, some 31, some 32, some 33, some 34, some 35, some 36, some 37, some 38, some 39, some 40, some 41, some 42] (by kernel_rfl) (by kernel_rfl) (by kernel_rfl) (by kernel_rfl) (of_decide_eq_true (by kernel_rfl)) (by kernel_rfl) (pdKA A n c bv b2 Z g5) ?_ ?_ ?_
      · exact pdKA_mono A n c bv b2 Z g5
      · intro i hi o w1 b ho hbel hv hstood hsize K hK
        have hc : i = 0 ∨ i = 1 ∨ i = 2 ∨ i = 3 ∨ i = 4 ∨ i = 5 ∨ i = 6 ∨ i = 7 ∨ i = 8 ∨ i = 9 ∨ i = 10 ∨ i = 11 ∨ i = 12 := by omega
        rcases hc with rfl | rfl | rfl | rfl | rfl | rfl | rfl | rfl | rfl | rfl | rfl | rfl | rfl
        · obtain rfl : (⟨some 30, .move (Operand.tmp 0), _, _, _, _⟩ : Oper) = o := Option.some.inj ho
          refine ask_plain rfl ?_
          have e : b.eval (.tmp 0) = .slice A n c := (hstood 0 (by kernel_rfl)).trans rfl
          exact wp_val _ rfl (hK _ _ e (Below.refl _ _))
        · obtain rfl : (⟨some 31, .call { callee := (Callee.builtin Builtin.len), args := #[(Operand.tmp 30)], argTypes := #[35] }, _, _, _, _⟩ : Oper) = o := Option.some.inj ho
          refine ask_plain rfl ?_
          have e0 : b.eval (.tmp 30) = .slice A n c := hv 0 30 (by kernel_rfl) (by kernel_rfl) (of_decide_eq_true (by kernel_rfl))
          exact wp_len35 (.tmp 30) rfl A n c e0 (hK _ _ rfl (Below.refl _ _))
        · obtain rfl : (⟨some 32, .binOp BinOp.eql 3 (Operand.tmp 31) (Operand.const (Value.int IntKind.i64 64)) 3, _, _, _, _⟩ : Oper) = o := Option.some.inj ho
          refine ask_plain rfl ?_
          have e0 : b.eval (.tmp 31) = .int .i64 (n : Int) := hv 1 31 (by kernel_rfl) (by kernel_rfl) (of_decide_eq_true (by kernel_rfl))
          exact wp_val (.bool false) (by simp only [execOp, e0]; simp [go_sem, hne64]) (hK _ _ rfl (Below.refl _ _))
        · obtain rfl : (⟨some 33, .move (Operand.tmp 32), _, _, _, _⟩ : Oper) = o := Option.some.inj ho
          refine ask_plain rfl ?_
          have e : b.eval (.tmp 32) = .bool false := hv 2 32 (by kernel_rfl) (by kernel_rfl) (of_decide_eq_true (by kernel_rfl))
          exact wp_val _ rfl (hK _ _ e (Below.refl _ _))
        · obtain rfl : (⟨some 34, .move (Operand.tmp 0), _, _, _, _⟩ : Oper) = o := Option.some.inj ho
          have hgd := hv 3 33 (by kernel_rfl) (by kernel_rfl) (of_decide_eq_true (by kernel_rfl))
          refine ask_yes 3 33 false rfl (by kernel_rfl) (by rw [hsize]; exact (of_decide_eq_true (by kernel_rfl))) hgd ?_
          have e : b.eval (.tmp 0) = .slice A n c := (hstood 0 (by kernel_rfl)).trans rfl
          exact wp_val _ rfl (hK _ _ e (Below.refl _ _))
        · obtain rfl : (⟨some 35, .move (Operand.tmp 1), _, _, _, _⟩ : Oper) = o := Option.some.inj ho
          have hgd := hv 3 33 (by kernel_rfl) (by kernel_rfl) (of_decide_eq_true (by kernel_rfl))
          refine ask_yes 3 33 false rfl (by kernel_rfl) (by rw [hsize]; exact (of_decide_eq_true (by kernel_rfl))) hgd ?_
          have e : b.eval (.tmp 1) = bv := (hstood 1 (by kernel_rfl)).trans rfl
          exact wp_val _ rfl (hK _ _ e (Below.refl _ _))
        · obtain rfl : (⟨some 36, .buildSlice 22 1 #[(0, (Operand.tmp 35))], _, _, _, _⟩ : Oper) = o := Option.some.inj ho
          have hgd := hv 3 33 (by kernel_rfl) (by kernel_rfl) (of_decide_eq_true (by kernel_rfl))
          refine ask_yes 3 33 false rfl (by kernel_rfl) (by rw [hsize]; exact (of_decide_eq_true (by kernel_rfl))) hgd ?_
          have e2 : b.eval (.tmp 35) = bv := hv 5 35 (by kernel_rfl) (by kernel_rfl) (of_decide_eq_true (by kernel_rfl))
          refine wp_buildSlice 22 35 1 _ rfl #[bv] i35 (.slice none 0 0) Try.underlying22 hi35 hz35 (by rw [hs35]; decide) (by rw [hs35]; decide) (by rw [hs35]; simp only [List.map_toArray, List.map_cons, List.map_nil, e2]; exact HFI.out) (hK _ _ ⟨_, rfl, RdN.new1 w1 b2 bv 35 (0, 0) _ rfl (HBV.out.below hbel)⟩ (below_alloc1 _ _))
        · obtain rfl : (⟨some 37, .call { callee := (Callee.value (Operand.func 46)), args := #[(Operand.tmp 34), (Operand.tmp 36)], argTypes := #[35, 22] }, _, _, _, _⟩ : Oper) = o := Option.some.inj ho
          have hgd := hv 3 33 (by kernel_rfl) (by kernel_rfl) (of_decide_eq_true (by kernel_rfl))
          refine ask_yes 3 33 false rfl (by kernel_rfl) (by rw [hsize]; exact (of_decide_eq_true (by kernel_rfl))) hgd ?_
          have e1 : b.eval (.tmp 34) = .slice A n c := hv 4 34 (by kernel_rfl) (by kernel_rfl) (of_decide_eq_true (by kernel_rfl))
          obtain ⟨gg, e2, hr2⟩ : ∃ g, b.eval (.tmp 36) = .slice (some ⟨g, 0, none⟩) 1 1 ∧ RdN w1 (some ⟨g, 0, none⟩) [b2] := hv 6 36 (by kernel_rfl) (by kernel_rfl) (of_decide_eq_true (by kernel_rfl))
          have hcall := msum_any k2 (.slice A n c) [b2] ⟨gg, 0, none⟩ 1 w1 (HKV.out.below hbel) HKL.out hr2 (by simp) (by simp) (by simp; omega)
          rw [show [b2].flatten = b2 by simp, HZ1.out] at hcall
          refine wp_call_fn 46 #[.tmp 34, .tmp 36] #[35, 22] rfl Try.f46 _ Try.func46 (by kernel_rfl) rfl #[.slice A n c, .slice (some ⟨gg, 0, none⟩) 1 1] (by simp [e1, e2]) (hcall.mono ?_)
          rintro e w2 ⟨rfl, hb2⟩
          exact ⟨_, rfl, hK _ _ rfl hb2⟩
        · obtain rfl : (⟨some 38, .slice 24 (Operand.tmp 5) none none none, _, _, _, _⟩ : Oper) = o := Option.some.inj ho
          have hgd := hv 3 33 (by kernel_rfl) (by kernel_rfl) (of_decide_eq_true (by kernel_rfl))
          refine ask_yes 3 33 false rfl (by kernel_rfl) (by rw [hsize]; exact (of_decide_eq_true (by kernel_rfl))) hgd ?_
          have e : b.eval (.tmp 5) = .pointer (some ⟨g5, 0, none⟩) := (hstood 5 (by kernel_rfl)).trans rfl
          have hf := slice24 ⟨g5, 0, none⟩ w1
          exact wp_val (.slice (some ⟨g5, 0, none⟩) 32 32) (by simp only [execOp, e, hf, Option.map_none, Sem.run_bind, Result.andThen]; rfl) (hK _ _ rfl (Below.refl _ _))
        · obtain rfl : (⟨some 39, .move (Operand.tmp 1), _, _, _, _⟩ : Oper) = o := Option.some.inj ho
          have hgd := hv 3 33 (by kernel_rfl) (by kernel_rfl) (of_decide_eq_true (by kernel_rfl))
          refine ask_yes 3 33 false rfl (by kernel_rfl) (by rw [hsize]; exact (of_decide_eq_true (by kernel_rfl))) hgd ?_
          have e : b.eval (.tmp 1) = bv := (hstood 1 (by kernel_rfl)).trans rfl
          exact wp_val _ rfl (hK _ _ e (Below.refl _ _))
        · obtain rfl : (⟨some 40, .buildSlice 22 1 #[(0, (Operand.tmp 39))], _, _, _, _⟩ : Oper) = o := Option.some.inj ho
          have hgd := hv 3 33 (by kernel_rfl) (by kernel_rfl) (of_decide_eq_true (by kernel_rfl))
          refine ask_yes 3 33 false rfl (by kernel_rfl) (by rw [hsize]; exact (of_decide_eq_true (by kernel_rfl))) hgd ?_
          have e2 : b.eval (.tmp 39) = bv := hv 9 39 (by kernel_rfl) (by kernel_rfl) (of_decide_eq_true (by kernel_rfl))
          refine wp_buildSlice 22 35 1 _ rfl #[bv] i35 (.slice none 0 0) Try.underlying22 hi35 hz35 (by rw [hs35]; decide) (by rw [hs35]; decide) (by rw [hs35]; simp only [List.map_toArray, List.map_cons, List.map_nil, e2]; exact HFI.out) (hK _ _ ⟨_, rfl, RdN.new1 w1 b2 bv 35 (0, 0) _ rfl (HBV.out.below hbel)⟩ (below_alloc1 _ _))
        · obtain rfl : (⟨some 41, .call { callee := (Callee.value (Operand.func 46)), args := #[(Operand.tmp 38), (Operand.tmp 40)], argTypes := #[35, 22] }, _, _, _, _⟩ : Oper) = o := Option.some.inj ho
          have hgd := hv 3 33 (by kernel_rfl) (by kernel_rfl) (of_decide_eq_true (by kernel_rfl))
          refine ask_yes 3 33 false rfl (by kernel_rfl) (by rw [hsize]; exact (of_decide_eq_true (by kernel_rfl))) hgd ?_
          have e1 : b.eval (.tmp 38) = .slice (some ⟨g5, 0, none⟩) 32 32 := hv 8 38 (by kernel_rfl) (by kernel_rfl) (of_decide_eq_true (by kernel_rfl))
          obtain ⟨gg, e2, hr2⟩ : ∃ g, b.eval (.tmp 40) = .slice (some ⟨g, 0, none⟩) 1 1 ∧ RdN w1 (some ⟨g, 0, none⟩) [b2] := hv 10 40 (by kernel_rfl) (by kernel_rfl) (of_decide_eq_true (by kernel_rfl))
          have hcall := msum_any D (.slice (some ⟨g5, 0, none⟩) 32 32) [b2] ⟨gg, 0, none⟩ 1 w1 (HDV.out.below hbel) HDL.out hr2 (by simp) (by simp) (by simp; omega)
          rw [show [b2].flatten = b2 by simp, HZ2.out] at hcall
          refine wp_call_fn 46 #[.tmp 38, .tmp 40] #[35, 22] rfl Try.f46 _ Try.func46 (by kernel_rfl) rfl #[.slice (some ⟨g5, 0, none⟩) 32 32, .slice (some ⟨gg, 0, none⟩) 1 1] (by simp [e1, e2]) (hcall.mono ?_)
          rintro e w2 ⟨rfl, hb2⟩
          exact ⟨_, rfl, hK _ _ rfl hb2⟩
        · obtain rfl : (⟨some 42, .binOp BinOp.eql 25 (Operand.tmp 37) (Operand.tmp 41) 25, _, _, _, _⟩ : Oper) = o := Option.some.inj ho
          have hgd := hv 3 33 (by kernel_rfl) (by kernel_rfl) (of_decide_eq_true (by kernel_rfl))
          refine ask_yes 3 33 false rfl (by kernel_rfl) (by rw [hsize]; exact (of_decide_eq_true (by kernel_rfl))) hgd ?_
          have e0 : b.eval (.tmp 37) = .agg (V8 Z) := hv 7 37 (by kernel_rfl) (by kernel_rfl) (of_decide_eq_true (by kernel_rfl))
          have e1 : b.eval (.tmp 41) = .agg (V8 Z) := hv 11 41 (by kernel_rfl) (by kernel_rfl) (of_decide_eq_true (by kernel_rfl))
          exact wp_val (.bool true) (by simp only [execOp, e0, e1]; simp [go_sem, HEQ.out]) (hK _ _ rfl (Below.refl _ _))
      · intro vs w9 hp hb9
        have v12 : vs 12 = .bool true := hp 12 (by decide)
        have v3 : vs 3 = .bool false := hp 3 (by decide)
        have B9 := Lib.hid (B4.out.trans (hb9.mono B4.out.size))
        change wpList _ _ _ [_, _] _ _
        simp only [putD, Act.put, List.setIfInBounds_toArray, List.set_cons_zero, List.set_cons_succ, v12, v3]
        generalize vs 4 = y4, vs 5 = y5, vs 6 = y6, vs 7 = y7, vs 8 = y8, vs 9 = y9, vs 10 = y10, vs 11 = y11
        clear v12 v3 hp hb9 B4
        go_wp2
        go_ret
        exact ⟨rfl, B9.out⟩
end Go.Proofs.Ytjaakhjfpigdfaa
