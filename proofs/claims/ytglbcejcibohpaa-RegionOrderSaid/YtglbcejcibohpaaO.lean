import Derived.Test.YtglbcejcibohpaaN
/-! RegionOther: the law. -/
namespace Go.Proofs.Ytglbcejcibohpaa
open Go.RowKit
set_option linter.unusedVariables false
set_option linter.unusedSimpArgs false
theorem freeF_wide {b c : Int} (hbc : b ≤ c) : ∀ {l : List Ext} {p : Int}, freeF b p l → freeF c p l
  | [], _, _ => trivial
  | e :: l, p, h => ⟨⟨⟨h.1.1.1, h.1.1.2.1, by have := h.1.1.2.2; omega⟩, h.1.2⟩, freeF_wide hbc h.2⟩
theorem other_ok {b : Int} {l : List Ext} (hb : 0 ≤ b) (h : freeE b l) : freeE b (otherF b 0 l) ∧ ∀ k, memE (otherF b 0 l) k ↔ 0 ≤ k ∧ k < b ∧ ¬ memE l k :=
  other_free h (by omega) (Int.le_refl _) (fun e he => by have := (freeF_lies h e he).2; omega) hb
theorem other_other {b : Int} {l : List Ext} (hb : 0 ≤ b) (h : freeE b l) : otherF b 0 (otherF b 0 l) = l := by
  obtain ⟨h1, h2⟩ := other_ok hb h
  obtain ⟨h3, h4⟩ := other_ok hb h1
  refine row_unique b hb _ _ h3 h fun k hk0 hkb => ?_
  rw [h4, h2]
  by_cases hm : memE l k
  · simp [hm, hk0, hkb]
  · simp [hm, hk0, hkb]
theorem sum_both {b : Int} {l : List Ext} (hb : 0 ≤ b) (h : freeE b l) : sumE l + sumE (otherF b 0 l) = b := by
  have := sum_other (l := l) (p := -1) (a := 0) h (fun e he => by have := (freeF_lies h e he).2; omega) hb
  omega
theorem otherC_ok {b : Int} {l : List Ext} (hb : 0 ≤ b ∧ b ≤ 4096) (h : freeE b l) : otherC b l = (otherF b 0 l, 0) := by
  unfold otherC; rw [check_yes hb h]; rfl
theorem sumC_ok {b : Int} {l : List Ext} (hb : b ≤ 4096) (h : freeE b l) : sumC l = (sumE l, 0) := by
  unfold sumC; exact if_pos (show freeE 4096 l from freeF_wide hb h)
theorem sum_len {b : Int} {l : List Ext} (hb : 0 ≤ b ∧ b ≤ 4096) (h : freeE b l) : 0 ≤ sumE l ∧ sumE l ≤ 4097 := by
  have := sum_bound h (by omega)
  omega
set_option maxRecDepth 100000 in
set_option maxHeartbeats 4000000 in
theorem regionOther_any (b : Int) (l0 : List Ext) (A : Option Addr) (cap : Nat) (w : World) (hb : I64 b) (hr0 : RdE w A l0) (hl0 : l0.length ≤ cap) :
    Calls Try.prog 7 #[.int .i64 b, .slice A l0.length cap] w fun e w' => e = .returned (.bool true) ∧ Below w.heap.size w w' := by
  have FW := Lib.hid (fun w' => few_any l0 A cap w' hl0 hr0.1)
  have hr := hr0.take 5000
  have hl : (l0.take 5000).length ≤ cap := by rw [List.length_take]; omega
  obtain ⟨l, hL⟩ : ∃ l, l0.take 5000 = l := ⟨_, rfl⟩
  rw [hL] at FW hr hl
  have hm := hr.1
  have HR := Lib.hid hr
  have AW := Lib.hid (awake_any w)
  have OT : Hid (∀ w', Below w.heap.size w w' → Calls Try.prog 19 #[.int .i64 b, .slice A l.length cap] w' fun e w'' => ∃ v, e = .returned (.tuple #[v, .int .i64 (otherC b l).2]) ∧ w''.ownsRow w'.heap.size 25 2 v (otherC b l).1.length (extsV (otherC b l).1) ∧ Below w'.heap.size w' w'') := fun w' h => other_any b l A cap w' hb (HR.out.below h) hl
  clear hL hr hr0 hl0
  by_cases hc : checkE b l = 0
  · obtain ⟨hb', hf⟩ := check_zero hc
    have b1 := hb'.1
    have b2 := hb'.2
    have oc := otherC_ok hb' hf
    have hx := (other_ok b1 hf).1
    have ocx := otherC_ok hb' hx
    rw [other_other b1 hf] at ocx
    have sc := sumC_ok b2 hf
    have scx := sumC_ok b2 hx
    have ckx := check_yes hb' hx
    have sb := sum_both b1 hf
    have s1 := sum_len hb' hf
    have s2 := sum_len hb' hx
    have hAx := allI_free hx b2
    have hAl := allI_free hf b2
    rw [oc] at OT
    obtain ⟨x, hX⟩ : ∃ x, otherF b 0 l = x := ⟨_, rfl⟩
    rw [hX] at hx ocx scx ckx sb s2 hAx OT
    simp only at OT
    obtain ⟨p, hp⟩ : ∃ p, sumE l = p := ⟨_, rfl⟩
    obtain ⟨q, hq⟩ : ∃ q, sumE x = q := ⟨_, rfl⟩
    rw [hp] at sc sb s1
    rw [hq] at scx sb s2
    have OCX := Lib.hid ocx
    have SC := Lib.hid sc
    have SCX := Lib.hid scx
    have CKX := Lib.hid ckx
    have HAX := Lib.hid hAx
    have HAL := Lib.hid hAl
    clear hc hf oc hx ocx sc scx ckx hX hp hq hAx hAl
    have sw : IntKind.i64.wrap (p + q) = p + q := IntWalk.i64_in _ (by omega)
    have sd : (p + q == b) = true := by simp [sb]
    go_enter Try.func7, Try.ntmps7
    go_upto_region 5 with (first | (go_at_call 14; refine AW.out.mono ?_; rintro e w1 ⟨rfl, b01⟩) | (go_at_call 10; refine (FW.out _).mono ?_; rintro e w' ⟨rfl, rfl⟩) | (go_at_call 19; refine (OT.out _ b01).mono ?_; rintro e w2 ⟨v, rfl, hv, b12⟩; have HV := Lib.hid hv; have b02 : Below w.heap.size w w2 := b01.trans (b12.mono b01.size); clear hv b12) | fail)
    obtain ⟨X, cx, rfl, hlx, hrx⟩ := RdE.own HV.out HAX.out
    have HRX := Lib.hid hrx
    have OX := Lib.hid (other_any b x X cx w2 hb hrx hlx)
    rw [OCX.out] at OX
    simp only at OX
    have CX := Lib.hid (fun w' (h : Below w2.heap.size w2 w') => rcheck_any b x X cx w' hb (HRX.out.below h) hlx)
    rw [CKX.out] at CX
    have SX := Lib.hid (fun w' (h : Below w2.heap.size w2 w') => sum_any x X cx w' (HRX.out.below h) hlx)
    rw [SCX.out] at SX
    have SL := Lib.hid (fun w' (h : Below w.heap.size w w') => sum_any l A cap w' (HR.out.below h) hl)
    rw [SC.out] at SL
    clear AW FW OT HV hrx
    simp only at SX SL
    go_upto_region 8 with (first | (go_at_call 19; refine OX.out.mono ?_; rintro e w3 ⟨u, rfl, hu, b23⟩; have HU := Lib.hid hu; have b03 : Below w.heap.size w w3 := b02.trans (b23.mono b02.size); have B23 := Lib.hid b23; clear hu b23) | fail)
    obtain ⟨Y, cy, rfl, hly, hry⟩ := RdE.own HU.out HAL.out
    have HRY := Lib.hid hry
    clear hry HU OX
    go_upto_region 9 with (first | (go_at_call 20; refine (SL.out _ b03).mono ?_; rintro e w4 ⟨rfl, b34⟩; have B34 := Lib.hid b34; have b04 : Below w.heap.size w w4 := b03.trans (b34.mono b03.size); have B24 := Lib.hid (B23.out.trans (b34.mono B23.out.size)); clear b34) | fail)
    go_upto_region 10 with (first | (go_at_call 20; refine (SX.out _ B24.out).mono ?_; rintro e w5 ⟨rfl, b45⟩; have b05 : Below w.heap.size w w5 := b04.trans (b45.mono b04.size); have B25 := Lib.hid (B24.out.trans (b45.mono B24.out.size)); have B35 := Lib.hid (B34.out.trans (b45.mono B34.out.size)); clear b45) | fail)
    have SA := Lib.hid (same_yes l Y A cy cap w5 (HRY.out.below B35.out) (HR.out.below b05) hly hl)
    clear SX SL
    go_wp2_with (first | (go_at_call 13; refine SA.out.mono ?_; rintro e w6 ⟨rfl, b56⟩; have b06 : Below w.heap.size w w6 := b05.trans (b56.mono b05.size); have B26 := Lib.hid (B25.out.trans (b56.mono B25.out.size)); clear b56) | (go_at_call 15; refine (CX.out _ B26.out).mono ?_; rintro e w7 ⟨rfl, b67⟩; have b07 : Below w.heap.size w w7 := b06.trans (b67.mono b06.size); clear b67) | fail)
    go_ret
    exact ⟨rfl, b07⟩
  · have eC : otherC b l = ([], checkE b l) := by unfold otherC; rw [if_neg hc]
    have CX := Lib.hid (fun w' (h : Below w.heap.size w w') => rcheck_any b l A cap w' hb (HR.out.below h) hl)
    rw [eC] at OT
    obtain ⟨c, hcc⟩ : ∃ c, checkE b l = c := ⟨_, rfl⟩
    have h3 := check_range b l
    rw [hcc] at CX hc h3 OT
    simp only at OT
    have hd : decide (c = 0) = false := decide_eq_false hc
    clear hcc eC
    go_enter Try.func7, Try.ntmps7
    go_upto_region 5 with (first | (go_at_call 14; refine AW.out.mono ?_; rintro e w1 ⟨rfl, b01⟩) | (go_at_call 10; refine (FW.out _).mono ?_; rintro e w' ⟨rfl, rfl⟩) | (go_at_call 19; refine (OT.out _ b01).mono ?_; rintro e w2 ⟨v, rfl, hv, b12⟩; have HV := Lib.hid hv; have b02 : Below w.heap.size w w2 := b01.trans (b12.mono b01.size); clear hv b12) | fail)
    obtain ⟨X, cx, rfl, _⟩ := own_slice HV.out
    clear AW FW OT HV
    go_wp2_with (first | (go_at_call 15; refine (CX.out _ b02).mono ?_; rintro e w3 ⟨rfl, b23⟩; have b03 : Below w.heap.size w w3 := b02.trans (b23.mono b02.size); clear b23) | fail)
    go_ret
    exact ⟨rfl, b03⟩
end Go.Proofs.Ytglbcejcibohpaa
