import Derived.Test.YtjaakhjfpigdfaaD5
/-! MacBack. -/
namespace Go.Proofs.Ytjaakhjfpigdfaa
open Go.RowKit
set_option linter.unusedVariables false
set_option linter.unusedSimpArgs false
theorem own_setCell {w : World} {base n g cap k : Nat} {l : By} (h : w.ownsRow base 5 1 (.slice (some ⟨g, 0, none⟩) n cap) n (bytesV l)) (hk : k < n) (y : BitVec 8) : (w.setCell ⟨g, k, none⟩ (.int .u8 (y.toNat : Int))).ownsRow base 5 1 (.slice (some ⟨g, 0, none⟩) n cap) n (bytesV (l.set k y)) := by
  have hl : l.length = n := by have := h.1; simpa [bytesV] using this
  rcases h.2 with ⟨h0, _⟩ | ⟨g', cap', cur, e, hb, hg, h1, h2, h3, h4⟩
  · cases h0
  · simp only [Value.slice.injEq, Option.some.injEq, Addr.mk.injEq] at e
    obtain ⟨⟨rfl, _⟩, _, rfl⟩ := e
    refine ⟨by simp [bytesV, hl], .inr ⟨g, cap, _, rfl, hb, heap_setCell hg k _, h1, h2, by simpa using h3, ?_⟩⟩
    have h4' : cur.toList.take n = bytesV l := by simpa using h4
    rw [Nat.mul_one, Array.toList_setIfInBounds, List.take_set, h4']
    simp [bytesV, List.map_set]
theorem body_seal (b Z : By) (hz : Z.length = 32) : bodyOf (b ++ Z) = b ∧ tagOf (b ++ Z) = Z := by
  unfold bodyOf tagOf
  rw [List.length_append, hz, show b.length + 32 - 32 = b.length by omega]
  exact ⟨List.take_left, List.drop_left⟩
theorem open_seal (k b : By) : openB k (b ++ macL k b) = b ∧ openE k (b ++ macL k b) = 0 := by
  obtain ⟨h1, h2⟩ := body_seal b (macL k b) (macL_len k b)
  have hnl : ¬ (b ++ macL k b).length < 32 := by rw [List.length_append, macL_len]; omega
  unfold openB openE
  rw [h1, h2, if_neg hnl, if_neg hnl, if_pos rfl, if_pos rfl]
  exact ⟨rfl, rfl⟩
theorem open_wrong (k b Y : By) (hy : Y.length = 32) (hne : ¬ macL k b = Y) : openB k (b ++ Y) = [] ∧ openE k (b ++ Y) = 40 := by
  obtain ⟨h1, h2⟩ := body_seal b Y hy
  have hnl : ¬ (b ++ Y).length < 32 := by rw [List.length_append, hy]; omega
  unfold openB openE
  rw [h1, h2, if_neg hnl, if_neg hnl, if_neg hne, if_neg hne]
  exact ⟨rfl, rfl⟩
theorem set_ne (Z : By) (i : Nat) (y : BitVec 8) (hi : i < Z.length) (hy : y ≠ Z.getD i 0) : ¬ Z = Z.set i y := fun e => by
  apply hy
  have h3 := congrArg (fun l => l.getD i 0) e
  simp only [List.getD_eq_getElem?_getD] at h3 ⊢
  rw [h3, List.getElem?_set_self hi]
  rfl
theorem open_other (k b : By) (i : Nat) (y : BitVec 8) (hi : i < 32) (hy : y ≠ (macL k b).getD i 0) : openB k (b ++ (macL k b).set i y) = [] ∧ openE k (b ++ (macL k b).set i y) = 40 :=
  open_wrong k b _ (by rw [List.length_set]; exact macL_len k b) (set_ne _ i y (by rw [macL_len]; exact hi) hy)
theorem set_seal (b Z : By) (i : Nat) (y : BitVec 8) : (b ++ Z).set (b.length + i) y = b ++ Z.set i y := by
  rw [List.set_append_right _ _ (by omega), show b.length + i - b.length = i by omega]
set_option maxRecDepth 100000 in
set_option maxHeartbeats 8000000 in
theorem macBack_true (k : By) (A0 : Option Addr) (c0 : Nat) (b : By) (B0 : Option Addr) (d0 : Nat) (at' x : BitVec 8) (w : World) (hr : RdB w A0 k) (hc : k.length ≤ c0) (y0 : k.length * 1 ≤ 140737488351232) (hn : A0 = none → c0 = 0) (hrb : RdB w B0 b) (hd : b.length ≤ d0) (y1 : b.length * 1 ≤ 140737488351232) (hnb : B0 = none → d0 = 0) : Calls Try.prog 14 #[.slice A0 k.length c0, .slice B0 b.length d0, .int .u8 (at'.toNat : Int), .int .u8 (x.toNat : Int)] w fun e w' => e = .returned (.bool true) ∧ Below w.heap.size w w' := by
  have hEk : EqN w k (.slice A0 k.length c0) := ⟨A0, c0, rfl, hc, hr, hn⟩
  have hEb : EqN w b (.slice B0 b.length d0) := ⟨B0, d0, rfl, hd, hrb, hnb⟩
  obtain ⟨kv0, hkv0⟩ : ∃ v, Value.slice A0 k.length c0 = v := ⟨_, rfl⟩
  obtain ⟨bv0, hbv0⟩ : ∃ v, Value.slice B0 b.length d0 = v := ⟨_, rfl⟩
  rw [hkv0] at hEk ⊢
  rw [hbv0] at hEb ⊢
  have AW := Lib.hid (awake4_any w)
  have HC1 := Lib.hid (fun (w' : World) (hb : Below w.heap.size w w') => cut4_any k kv0 w' (hEk.below hb))
  have HC2 := Lib.hid (fun (w' : World) (hb : Below w.heap.size w w') => cut4_any b bv0 w' (hEb.below hb))
  clear hkv0 hbv0 hEk hEb hr hc y0 hn hrb hd y1 hnb
  go_enter Try.func14, Try.ntmps14
  go_wp2_with fail
  refine AW.out.mono ?_
  rintro e w1 ⟨rfl, hb1⟩
  have B1 := Lib.hid hb1
  clear AW hb1
  go_wp2_with fail
  refine (HC1.out w1 B1.out).mono ?_
  rintro e w2 ⟨kv, rfl, hEk, rfl⟩
  have HKV1 := Lib.hid hEk
  clear hEk HC1
  go_wp2_with fail
  refine (HC2.out w1 B1.out).mono ?_
  rintro e w2 ⟨bv, rfl, hEb, rfl⟩
  have HBV1 := Lib.hid hEb
  clear hEb HC2
  have hkl : (k.take 2000).length ≤ 1000000 := by rw [List.length_take]; omega
  have hbl : (b.take 2000).length ≤ 2000 := by rw [List.length_take]; omega
  obtain ⟨k2, hk2⟩ : ∃ q, k.take 2000 = q := ⟨_, rfl⟩
  obtain ⟨b2, hb2⟩ : ∃ q, b.take 2000 = q := ⟨_, rfl⟩
  rw [hk2] at hkl HKV1
  rw [hb2] at hbl HBV1
  have SE := Lib.hid (seal_any k2 kv b2 bv w1 HKV1.out hkl HBV1.out (by omega))
  have hZl := macL_len k2 b2
  have hop := open_seal k2 b2
  have hop2 := open_other k2 b2
  obtain ⟨Z, hZ⟩ : ∃ Z, macL k2 b2 = Z := ⟨_, rfl⟩
  rw [hZ] at SE hZl hop hop2
  have HZL := Lib.hid hZl
  have HOP := Lib.hid hop
  have HOP2 := Lib.hid hop2
  have HKL := Lib.hid hkl
  have HBL := Lib.hid hbl
  clear hk2 hb2 hkl hZl hop hop2 hZ
  go_wp2_with fail
  refine SE.out.mono ?_
  rintro e w3 ⟨v9, rfl, hown, hb3⟩
  obtain ⟨m, hm⟩ : ∃ m, b2.length = m := ⟨_, rfl⟩
  have HM := Lib.hid hm
  have hsl : (b2 ++ Z).length = m + 32 := by rw [List.length_append, HZL.out, hm]
  rw [hsl] at hown
  rw [hm] at hbl
  obtain ⟨g, cap, rfl⟩ := Joins.ownsRow_form hown (by omega)
  have HS3 := Lib.hid (show EqN w3 (b2 ++ Z) (.slice (some ⟨g, 0, none⟩) (m + 32) cap) from EqN.own hown)
  have HO3 := Lib.hid hown
  have hgb := own_base' hown
  have B3 := Lib.hid hb3
  have HSL := Lib.hid hsl
  have OP := Lib.hid (open_any k2 kv (b2 ++ Z) (.slice (some ⟨g, 0, none⟩) (m + 32) cap) w3 (HKV1.out.below hb3) HKL.out HS3.out (by rw [hsl]; omega))
  rw [HOP.out.1, HOP.out.2] at OP
  clear SE hown hb3 hm hsl hgb
  go_wp2_with fail
  refine OP.out.mono ?_
  rintro e w4 ⟨v10, rfl, hE10, hb4⟩
  have HE10 := Lib.hid hE10
  have HO4 := Lib.hid (own_below HO3.out hb4)
  have B4 := Lib.hid (B3.out.trans (hb4.mono B3.out.size))
  have hcv1 := conv_EqN hE10
  obtain ⟨Bb, db, ebv, hdb, hrb, hnb⟩ := HBV1.out
  rw [HM.out] at ebv
  subst ebv
  have hcv2 := conv_EqN (HBV1.out.below B4.out)
  clear OP hE10 hb4 HO3 HS3 B3 hdb hrb hnb
  obtain ⟨SB, hSB⟩ : ∃ s, strV b2 = s := ⟨_, rfl⟩
  rw [hSB] at hcv1 hcv2
  clear hSB
  obtain ⟨A10, n10, c10, rfl⟩ := HE10.out.form
  go_upto_region 8 with (fail)
  clear hcv1 hcv2
  have hxl := x.isLt
  by_cases hx : x.toNat = 0
  · have hdx : decide ((x.toNat : Int) = 0) = true := by simp; omega
    have hdx2 : ((x.toNat : Int) == 0) = true := by simp; omega
    have B5 := Lib.hid (B1.out.trans (B4.out.mono B1.out.size))
    go_wp2
    go_ret
    exact ⟨rfl, B5.out⟩
  · have hdx : decide ((x.toNat : Int) = 0) = false := by simp; omega
    have hdx2 : ((x.toNat : Int) == 0) = false := by simp; omega
    obtain ⟨i, hi⟩ : ∃ i, at'.toNat % 32 = i := ⟨_, rfl⟩
    have hi32 : i < 32 := by omega
    have hiI : (at'.toNat : Int) % 32 = (i : Int) := by omega
    have hcell : w4.cell? ⟨g, m + i, none⟩ = some (.int .u8 ((Z.getD i 0).toNat : Int)) := by
      obtain ⟨A', c', e', _, hr', _⟩ := EqN.own HO4.out
      simp only [Value.slice.injEq] at e'
      obtain ⟨rfl, _, rfl⟩ := e'
      obtain ⟨ad, e2, hc2⟩ := RdB.at' hr' (m + i) (by rw [HSL.out]; omega)
      obtain rfl := Option.some.inj e2
      rw [add_zero_off] at hc2
      rw [hc2]
      have e3 : (b2 ++ Z)[m + i]'(by rw [HSL.out]; omega) = Z.getD i 0 := by
        rw [List.getElem_append_right (by rw [HM.out]; omega), List.getD_eq_getElem?_getD, List.getElem?_eq_getElem (by rw [HZL.out]; exact hi32)]
        simp [HM.out]
      rw [e3]
    have hfz : w4.frozen? ⟨g, m + i, none⟩ = false := by
      rcases HO4.out.2 with ⟨h0, _⟩ | ⟨g', cap', cur, e, _, hg, _⟩
      · cases h0
      · simp only [Value.slice.injEq, Option.some.injEq, Addr.mk.injEq] at e
        obtain ⟨⟨rfl, _⟩, _, _⟩ := e
        exact fr_of hg _
    have hgb : w1.heap.size ≤ g := own_base' HO4.out g rfl
    obtain ⟨z, hz⟩ : ∃ z, Z.getD i 0 = z := ⟨_, rfl⟩
    rw [hz] at hcell
    have hx8 := xor8 z x
    have hyz : z ^^^ x ≠ z := fun e => by
      have h2 : z ^^^ (z ^^^ x) = z ^^^ z := by rw [e]
      rw [← BitVec.xor_assoc, BitVec.xor_self] at h2
      have h3 : x = 0 := by simpa using h2
      exact hx (by rw [h3]; rfl)
    obtain ⟨y, hy⟩ : ∃ y, z ^^^ x = y := ⟨_, rfl⟩
    rw [hy] at hx8 hyz
    have hop2 := HOP2.out i y hi32 (by rw [hz]; exact hyz)
    have HO5 := Lib.hid (own_setCell HO4.out (show m + i < m + 32 by omega) y)
    have B5 := Lib.hid (B4.out.setCell (p := ⟨g, m + i, none⟩) hgb (.int .u8 (y.toNat : Int)))
    obtain ⟨W5, hW5⟩ : ∃ W, w4.setCell ⟨g, m + i, none⟩ (.int .u8 (y.toNat : Int)) = W := ⟨_, rfl⟩
    rw [hW5] at HO5 B5
    rw [show (b2 ++ Z).set (m + i) y = b2 ++ Z.set i y by rw [← HM.out]; exact set_seal b2 Z i y] at HO5
    have hsl5 : (b2 ++ Z.set i y).length = m + 32 := by rw [List.length_append, List.length_set, HZL.out, HM.out]
    have OP2 := Lib.hid (open_any k2 kv (b2 ++ Z.set i y) (.slice (some ⟨g, 0, none⟩) (m + 32) cap) W5 (HKV1.out.below B5.out) HKL.out (EqN.own HO5.out) (by rw [hsl5]; omega))
    rw [hop2.1, hop2.2] at OP2
    have HW5 := Lib.hid hW5
    have m1 : ((m : Int) + (i : Int)).toNat = m + i := by omega
    have l1 : (m : Int) + (i : Int) < (m : Int) + 32 := by omega
    have l2 : 0 ≤ (m : Int) + (i : Int) := by omega
    have l3 : (m : Int) + (i : Int) ≤ 140737488355328 := by omega
    have hiIlt : (i : Int) < 32 := by omega
    clear hW5 hop2 hsl5 hy hyz hz hi HO4 hx hgb
    go_wp2_with fail
    rw [HW5.out]
    refine OP2.out.mono ?_
    rintro e w6 ⟨v13, rfl, hE13, hb6⟩
    have B6 := Lib.hid (B1.out.trans ((B5.out.trans (hb6.mono B5.out.size)).mono B1.out.size))
    obtain ⟨A13, c13, rfl, _, _, _⟩ := hE13
    clear OP2 hb6 HW5 HO5 B5 hcell hfz
    go_wp2
    go_ret
    exact ⟨rfl, B6.out⟩
end Go.Proofs.Ytjaakhjfpigdfaa
