import Derived.Test.YtjaakhjfpigdfaaD4
import Derived.Lib.Bytes
/-! The document's Open. -/
namespace Go.Proofs.Ytjaakhjfpigdfaa
open Go.RowKit
set_option linter.unusedVariables false
set_option linter.unusedSimpArgs false
theorem strV_list (p q : By) : ((strV p).toList == (strV q).toList) = (p == q) := by
  have e : ∀ p : By, (strV p).toList = (strV p).data.toList := fun p => by
    unfold strV
    rw [Lib.strOfNums_toList, strOfNums_data]
    rfl
  rw [e, e]
  by_cases h : p = q
  · subst h; simp
  · have h2 : ¬ (strV p).data.toList = (strV q).data.toList := fun h3 => h ((strV_inj p q).1 (by
      cases hp : strV p; cases hq : strV q
      rw [hp, hq] at h3
      simp at h3
      rw [h3]))
    rw [show (p == q) = false by simpa using h]
    simpa using h2
set_option maxRecDepth 100000 in
set_option maxHeartbeats 4000000 in
theorem ropen_any (k : By) (kv : Value) (b : By) (bv : Value) (w : World) (hk : EqN w k kv) (hkl : k.length ≤ 1000000) (hb : EqN w b bv) (hbl : b.length ≤ 1000000) : Calls Try.prog 52 #[kv, bv] w fun e w' => ∃ v, e = .returned (.tuple #[v, .int .i64 (openE k b)]) ∧ EqN w' (openB k b) v ∧ Below w.heap.size w w' := by
  obtain ⟨i5, hi5', h51, h52, h53⟩ := info_parts info5
  have HI5 := Lib.hid hi5'
  have HKV0 := Lib.hid hk
  have HKL := Lib.hid hkl
  have HBV0 := Lib.hid hb
  obtain ⟨A, c, rfl, hc, hr, hn⟩ := hb
  have HR := Lib.hid hr
  obtain ⟨n, hbn⟩ : ∃ n, b.length = n := ⟨_, rfl⟩
  have HBN := Lib.hid hbn
  rw [hbn] at hc hbl HBV0 ⊢
  clear hi5' h51 h52 h53 hk hr hn hbn hkl
  by_cases h32 : n < 32
  · have HS := Lib.hid (show openE k b = 11 ∧ openB k b = [] by unfold openE openB; rw [HBN.out, if_pos h32, if_pos h32]; exact ⟨rfl, rfl⟩)
    have hI : decide ((n : Int) < 32) = true := by simp; omega
    go_enter Try.func52, Try.ntmps52
    go_wp2
    exact bodyPost_ret (v := .tuple #[.slice none 0 0, .int .i64 11]) (by simp [results, Try.results52, asAddr, Act.put]) rfl ⟨_, by rw [HS.out.1], by rw [HS.out.2]; exact EqN.nil _, Below.refl _ _⟩
  · obtain ⟨m, hm⟩ : ∃ m, n - 32 = m := ⟨_, rfl⟩
    have hnm : n = m + 32 := by omega
    have hmc : m ≤ c := by omega
    have hm6 : m ≤ 1000000 := by omega
    have hmI : (n : Int) - 32 = (m : Int) := by omega
    have hmcI : (m : Int) ≤ (c : Int) := by omega
    have HBD0 := Lib.hid (show EqN w (bodyOf b) (.slice A m c) from by
      unfold bodyOf
      rw [HBN.out, hm]
      have h := HBV0.out
      rw [← HBN.out] at h
      exact h.take m (by rw [HBN.out]; omega))
    obtain ⟨a0, rfl⟩ : ∃ a, A = some a := by
      obtain ⟨a, e, _⟩ := RdB.at' HR.out 0 (by rw [HBN.out]; omega)
      exact ⟨a, e⟩
    have hbdl : (bodyOf b).length = m := by unfold bodyOf; rw [List.length_take, HBN.out]; omega
    have hse := fun Z => seal_eq b Z (by rw [HBN.out]; omega)
    have hml := macL_len k (bodyOf b)
    have HOE := Lib.hid (show openE k b = (if macL k (bodyOf b) = tagOf b then 0 else 40) ∧ openB k b = (if macL k (bodyOf b) = tagOf b then bodyOf b else []) by unfold openE openB; rw [HBN.out, if_neg h32, if_neg h32]; exact ⟨rfl, rfl⟩)
    obtain ⟨bd, hbd2⟩ : ∃ q, bodyOf b = q := ⟨_, rfl⟩
    rw [hbd2] at HBD0 hbdl hml HOE hse
    obtain ⟨Z, hZ⟩ : ∃ Z, macL k bd = Z := ⟨_, rfl⟩
    rw [hZ] at hml HOE
    have HZ1 := Lib.hid hZ
    have HSE := Lib.hid (hse Z hml)
    have HBDL := Lib.hid (show bd.length ≤ 1000000 by omega)
    have HBM := Lib.hid hbdl
    obtain ⟨Ab, cb, eb, hcb, hrb, hnb⟩ := HBD0.out
    simp only [Value.slice.injEq] at eb
    obtain ⟨rfl, hmm, rfl⟩ := eb
    have HRB := Lib.hid hrb
    have hrt := run_take (some a0) n c m hmc
    have hdec : decide ((n : Int) < 32) = false := by simp; omega
    have HNM := Lib.hid hnm
    clear hmm hcb hrb hnb hbd2 hZ hml hse hbdl h32 hm hnm HR
    go_enter Try.func52, Try.ntmps52
    go_upto_region 4 with (first | ((with_reducible show wpList _ _ _ (⟨some 10, .buildSlice 35 0 #[], _, _, _, _⟩ :: _) _ _); refine wpList_buildSlice0 rfl 35 5 rfl i5 Try.underlying35 HI5.out ?_; try simp only [Act.put, List.setIfInBounds_toArray, List.set_cons_zero, List.set_cons_succ]; obtain ⟨W4, hW4⟩ : ∃ W, w.alloc (.cells #[] 5) = W := ⟨_, rfl⟩; have HB4 := Lib.hid (show Below w.heap.size w W4 by rw [← hW4]; exact below_alloc1 _ _); have OZ := Lib.hid (show W4.ownsRow w.heap.size 5 1 (.slice (some ⟨w.heap.size, 0, none⟩) 0 0) 0 [] by rw [← hW4]; exact own_zero (heap_new _ _ _ rfl) (Nat.le_refl _)); have HR4 := Lib.hid (show RdB W4 (some a0) bd from HRB.out.below HB4.out (fun _ _ h => h)); rw [hW4]; clear hW4) | (at_builtin; refine wpList_append_bytes rfl (.tmp 10) (.tmp 15) rfl w.heap.size _ 0 [] rfl OZ.out (some a0) c bd (by rw [HBM.out]; rfl) HR4.out (fun h => by cases h) (by rw [HBM.out]; exact hmc) (by rw [HBM.out]; omega) HB4.out.size ?_; intro v6 w5 hown hgrow _; have hb5 : Below w.heap.size w w5 := HB4.out.trans ((Below.refl _ _).grown hgrow HB4.out.size (own_base' OZ.out)); have HV6 : Hid (EqN w5 bd v6) := Lib.hid (by have h := hown; rw [List.nil_append] at h; exact EqN.own h); have HB5 := Lib.hid hb5; clear hown hgrow hb5) | fail)
    have HKV := Lib.hid (HKV0.out.below HB5.out)
    have HBV := Lib.hid (HBV0.out.below HB5.out)
    clear hrt HR4 OZ HB4 HRB HBD0 hmcI hdec
    refine wp_region_mono (w0 := _) 6 [some 17, some 18, some 19, some 20, some 21, some 22] (by kernel_rfl) (by kernel_rfl) (by kernel_rfl) (by kernel_rfl) (of_decide_eq_true (by kernel_rfl)) (by kernel_rfl) (pdO2 kv v6 (some a0) n c bd b Z) ?_ ?_ ?_
    · exact pdO2_mono kv v6 (some a0) n c bd b Z
    · intro i hi o w1 b9 ho hbel hv hstood hsize K hK
      have hc : i = 0 ∨ i = 1 ∨ i = 2 ∨ i = 3 ∨ i = 4 ∨ i = 5 := by omega
      rcases hc with rfl | rfl | rfl | rfl | rfl | rfl
      · obtain rfl : (⟨some 17, .move (Operand.tmp 0), _, _, _, _⟩ : Oper) = o := Option.some.inj ho
        refine ask_plain rfl ?_
        have e : b9.eval (.tmp 0) = kv := (hstood 0 (by kernel_rfl)).trans rfl
        exact wp_val _ rfl (hK _ _ e (Below.refl _ _))
      · obtain rfl : (⟨some 18, .move (Operand.tmp 6), _, _, _, _⟩ : Oper) = o := Option.some.inj ho
        refine ask_plain rfl ?_
        have e : b9.eval (.tmp 6) = v6 := (hstood 6 (by kernel_rfl)).trans rfl
        exact wp_val _ rfl (hK _ _ e (Below.refl _ _))
      · obtain rfl : (⟨some 19, .call { callee := (Callee.value (Operand.func 54)), args := #[(Operand.tmp 17), (Operand.tmp 18)], argTypes := #[35, 35] }, _, _, _, _⟩ : Oper) = o := Option.some.inj ho
        refine ask_plain rfl ?_
        have e1 : b9.eval (.tmp 17) = kv := hv 0 17 (by kernel_rfl) (by kernel_rfl) (of_decide_eq_true (by kernel_rfl))
        have e2 : b9.eval (.tmp 18) = v6 := hv 1 18 (by kernel_rfl) (by kernel_rfl) (of_decide_eq_true (by kernel_rfl))
        have hcall := rseal_any k kv bd v6 w1 (HKV.out.below hbel) HKL.out (HV6.out.below hbel) HBDL.out
        rw [HZ1.out] at hcall
        refine wp_call_fn 54 #[.tmp 17, .tmp 18] #[35, 35] rfl Try.f54 _ Try.func54 (by kernel_rfl) rfl #[kv, v6] (by simp [e1, e2]) (hcall.mono ?_)
        rintro e w2 ⟨v, rfl, hown, hb2⟩
        exact ⟨_, rfl, hK _ _ (EqN.own hown) hb2⟩
      · obtain rfl : (⟨some 20, .convert 35 9 (Operand.tmp 19), _, _, _, _⟩ : Oper) = o := Option.some.inj ho
        refine ask_plain rfl ?_
        have e1 : EqN w1 (bd ++ Z) (b9.eval (.tmp 19)) := hv 2 19 (by kernel_rfl) (by kernel_rfl) (of_decide_eq_true (by kernel_rfl))
        have e2 := conv_EqN e1
        exact wp_val (.string (strV (bd ++ Z))) (by simp only [execOp, Sem.run_bind, e2, Result.andThen]; rfl) (hK _ _ rfl (Below.refl _ _))
      · obtain rfl : (⟨some 21, .move (Operand.tmp 1), _, _, _, _⟩ : Oper) = o := Option.some.inj ho
        refine ask_plain rfl ?_
        have e : b9.eval (.tmp 1) = .slice (some a0) n c := (hstood 1 (by kernel_rfl)).trans rfl
        exact wp_val _ rfl (hK _ _ e (Below.refl _ _))
      · obtain rfl : (⟨some 22, .convert 35 9 (Operand.tmp 21), _, _, _, _⟩ : Oper) = o := Option.some.inj ho
        refine ask_plain rfl ?_
        have e1 : b9.eval (.tmp 21) = .slice (some a0) n c := hv 4 21 (by kernel_rfl) (by kernel_rfl) (of_decide_eq_true (by kernel_rfl))
        have e2 := conv_EqN (HBV.out.below hbel)
        exact wp_val (.string (strV b)) (by simp only [execOp, Sem.run_bind, e1, e2, Result.andThen]; rfl) (hK _ _ rfl (Below.refl _ _))
    · intro vs w3 hp hb3
      have v0 : vs 0 = kv := hp 0 (by decide)
      have v1 : vs 1 = v6 := hp 1 (by decide)
      have v3 : vs 3 = .string (strV (bd ++ Z)) := hp 3 (by decide)
      have v4 : vs 4 = .slice (some a0) n c := hp 4 (by decide)
      have v5 : vs 5 = .string (strV b) := hp 5 (by decide)
      have HB3 := Lib.hid (HB5.out.trans (hb3.mono HB5.out.size))
      have HV3 := Lib.hid (HV6.out.below hb3)
      change wpList _ _ _ [_] _ _
      simp only [putD, Act.put, List.setIfInBounds_toArray, List.set_cons_zero, List.set_cons_succ, v0, v1, v3, v4, v5]
      generalize vs 2 = x2
      clear v0 v1 v3 v4 v5 hp hb3
      by_cases hzt : Z = tagOf b
      · have hse : strV (bd ++ Z) = strV b := HSE.out.2 hzt
        have HS := Lib.hid (show openE k b = 0 ∧ openB k b = bd by rw [HOE.out.1, HOE.out.2, if_pos hzt, if_pos hzt]; exact ⟨rfl, rfl⟩)
        obtain ⟨S, hS⟩ : ∃ S, strV b = S := ⟨_, rfl⟩
        rw [hse, hS]
        clear hzt hse hS
        go_wp2
        exact bodyPost_ret (v := .tuple #[v6, .int .i64 0]) (by simp [results, Try.results52, asAddr, Act.put]) rfl ⟨_, by rw [HS.out.1], by rw [HS.out.2]; exact HV3.out, HB3.out⟩
      · have hse : ((strV (bd ++ Z)).toList == (strV b).toList) = false := by
          rw [strV_list]
          have h : ¬ bd ++ Z = b := fun h => hzt (HSE.out.1 (by rw [h]))
          simpa using h
        have HS := Lib.hid (show openE k b = 40 ∧ openB k b = [] by rw [HOE.out.1, HOE.out.2, if_neg hzt, if_neg hzt]; exact ⟨rfl, rfl⟩)
        obtain ⟨S, hS⟩ : ∃ S, strV b = S := ⟨_, rfl⟩
        obtain ⟨S2, hS2⟩ : ∃ S, strV (bd ++ Z) = S := ⟨_, rfl⟩
        rw [hS, hS2] at hse
        rw [hS, hS2]
        clear hzt hS hS2
        go_wp2
        exact bodyPost_ret (v := .tuple #[.slice none 0 0, .int .i64 40]) (by simp [results, Try.results52, asAddr, Act.put]) rfl ⟨_, by rw [HS.out.1], by rw [HS.out.2]; exact EqN.nil _, HB3.out⟩
end Go.Proofs.Ytjaakhjfpigdfaa
