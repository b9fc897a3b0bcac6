import Derived.Test.YtjaakhjfpigdfaaC3
/-! The document's block of a key. -/
namespace Go.Proofs.Ytjaakhjfpigdfaa
open Go.RowKit
set_option linter.unusedVariables false
set_option linter.unusedSimpArgs false
set_option maxRecDepth 100000 in
set_option maxHeartbeats 4000000 in
theorem block_any (k : By) (v : Value) (w : World) (hE : EqN w k v) (hl : k.length ≤ 1000000) : Calls Try.prog 88 #[v] w fun e w' => ∃ v, e = .returned v ∧ EqN w' (keyB k) v ∧ Below w.heap.size w w' := by
  obtain ⟨i0, hi0, hz0, hz1, hz2⟩ := info_parts info5
  have hz32 := zeros32
  have hzs32 : (V8 (List.replicate 32 0)).size = 32 := by rw [V8_size]; rfl
  obtain ⟨Zr, hZr⟩ : ∃ Z, V8 (List.replicate 32 0) = Z := ⟨_, rfl⟩
  rw [hZr] at hz32 hzs32
  have HZ32 := Lib.hid hz32
  have HZS32 := Lib.hid hzs32
  clear hz32 hzs32 hZr
  have HE := Lib.hid hE
  obtain ⟨A, c, rfl, hc, hr, hn⟩ := hE
  obtain ⟨n, hkn⟩ : ∃ n, k.length = n := ⟨_, rfl⟩
  have HKN := Lib.hid hkn
  have HR := Lib.hid hr
  have HN := Lib.hid hn
  rw [hkn] at hc hl HE ⊢
  clear hr hn hkn
  go_enter Try.func88, Try.ntmps88
  go_upto_if 10 with (first | ((with_reducible show wpList _ _ _ (⟨some 5, .buildSlice 35 0 #[], _, _, _, _⟩ :: _) _ _); refine wpList_buildSlice0 rfl 35 5 rfl i0 Try.underlying35 hi0 ?_; try simp only [Act.put, List.setIfInBounds_toArray, List.set_cons_zero, List.set_cons_succ]; obtain ⟨W2, hW2⟩ : ∃ W, w.alloc (.cells #[] 5) = W := ⟨_, rfl⟩; have HB2 := Lib.hid (show Below w.heap.size w W2 by rw [← hW2]; exact below_alloc1 _ _); have OZ := Lib.hid (show W2.ownsRow w.heap.size 5 1 (.slice (some ⟨w.heap.size, 0, none⟩) 0 0) 0 [] by rw [← hW2]; exact own_zero (heap_new _ _ _ rfl) (Nat.le_refl _)); have HR2 := Lib.hid (show RdB W2 A k from HR.out.below HB2.out (fun _ _ h => h)); rw [hW2]; clear hW2) | (at_builtin; refine wpList_append_bytes rfl (.tmp 5) (.tmp 6) rfl w.heap.size _ 0 [] rfl OZ.out A c k (by rw [HKN.out]; rfl) HR2.out HN.out (by rw [HKN.out]; exact hc) (by rw [HKN.out]; omega) HB2.out.size ?_; intro v3 w5 hown hgrow _; have hb5 : Below w.heap.size w w5 := HB2.out.trans ((Below.refl _ _).grown hgrow HB2.out.size (own_base' OZ.out)); have HO5 := Lib.hid hown; have HB5 := Lib.hid hb5; clear hown hgrow hb5) | fail)
  go_cut [3, 4] from 11 to 15 (fun v3 v4 wx => ∃ q : By, wx.ownsRow w.heap.size 5 1 v3 q.length (bytesV q) ∧ q.length ≤ 64 ∧ keyB k = q ++ List.replicate (64 - q.length) 0 ∧ Below w.heap.size w wx)
  case first =>
    by_cases h6 : 64 < n
    · have hdt : decide ((64 : Int) < (n : Int)) = true := by simp; omega
      have S1 := Lib.hid (rof_any k (.slice A n c) w5 (HE.out.below HB5.out) (by rw [HKN.out]; omega))
      have hsl := sumL_len k
      have HQ := Lib.hid (show keyB k = sumL k ++ List.replicate (64 - (sumL k).length) 0 by rw [sumL_len]; unfold keyB; rw [if_pos (by rw [HKN.out]; exact h6)])
      obtain ⟨Y, hY⟩ : ∃ Y, sumL k = Y := ⟨_, rfl⟩
      rw [hY] at S1 hsl HQ
      have HSY := Lib.hid (show (Try.prog.info? 24).map (·.size) = some (V8 Y).size by rw [V8_size, hsl]; kernel_rfl)
      have HZY := Lib.hid (show Zr.size = (V8 Y).size by rw [V8_size, hsl, HZS32.out])
      have HYL := Lib.hid hsl
      clear hsl hY HO5
      go_wp2_with fail
      refine S1.out.mono ?_
      rintro e w6 ⟨rfl, hb6⟩
      have HB6 := Lib.hid (HB5.out.trans (hb6.mono HB5.out.size))
      clear S1 hb6 HB5
      go_upto_region 4 with (first | ((with_reducible show wpList _ _ _ (⟨none, .store 24 (.tmp 4) (.tmp 12), _, _, _, _⟩ :: _) _ _); rw [← HZ32.out]; refine wpList_store_row rfl 24 (.tmp 4) (.tmp 12) rfl w6.heap.size (V8 Y) rfl rfl 24 _ (heap_new _ _ _ rfl) HSY.out HZY.out (V8_one _) ?_) | fail)
      generalize hW7 : (World.setRow _ _ _) = W7
      obtain ⟨g4, hg4⟩ : ∃ g, w6.heap.size = g := ⟨_, rfl⟩
      have b7 : Below w6.heap.size w6 W7 := by rw [← hW7]; exact below_setRow _ _ ((Below.refl _ _).alloc (Nat.le_refl _) _) (Nat.le_refl _)
      have y7 : W7.heap[g4]? = some (.cells (V8 Y) 24 (0, 0)) := by rw [← hW7, ← hg4]; exact setRow_heap _ _ _ _ _ _ (heap_new _ _ _ rfl)
      have HE7 := Lib.hid (EqN.arr y7 32 HYL.out (by decide))
      have HB7 := Lib.hid (HB6.out.trans (b7.mono HB6.out.size))
      have hsf := slice24 ⟨g4, 0, none⟩
      have hs7 := HB7.out.size
      rw [hg4]
      clear hW7 b7 y7 HB6 hg4
      obtain ⟨A7, c7, e7, hc7, hr7, hn7⟩ := HE7.out
      simp only [Value.slice.injEq] at e7
      obtain ⟨rfl, _, rfl⟩ := e7
      have HR7 := Lib.hid hr7
      clear hr7 hn7 hc7
      go_wp2_with (first | ((with_reducible show wpList _ _ _ (⟨some 13, .buildSlice 35 0 #[], _, _, _, _⟩ :: _) _ _); refine wpList_buildSlice0 rfl 35 5 rfl i0 Try.underlying35 hi0 ?_; try simp only [Act.put, List.setIfInBounds_toArray, List.set_cons_zero, List.set_cons_succ]; obtain ⟨W8, hW8⟩ : ∃ W, W7.alloc (.cells #[] 5) = W := ⟨_, rfl⟩; have HB8 := Lib.hid (show Below w.heap.size w W8 by rw [← hW8]; exact HB7.out.alloc hs7 _); have OZ8 := Lib.hid (show W8.ownsRow w.heap.size 5 1 (.slice (some ⟨W7.heap.size, 0, none⟩) 0 0) 0 [] by rw [← hW8]; exact own_zero (heap_new _ _ _ rfl) hs7); have HR8 := Lib.hid (show RdB W8 (some ⟨g4, 0, none⟩) Y from HR7.out.below (by rw [← hW8]; exact below_alloc1 _ _) (fun _ _ h => h)); rw [hW8]; clear hW8) | (at_builtin; refine wpList_append_bytes rfl (.tmp 13) (.tmp 14) rfl w.heap.size _ 0 [] rfl OZ8.out (some ⟨g4, 0, none⟩) 32 Y (by rw [HYL.out]; rfl) HR8.out (fun h => by cases h) (by rw [HYL.out]; decide) (by rw [HYL.out]; decide) HB8.out.size ?_; intro v3 w9 hown hgrow _; have hb9 : Below w.heap.size w w9 := HB8.out.trans ((Below.refl _ _).grown hgrow HB8.out.size (own_base' OZ8.out)); have HO9 := Lib.hid hown; have HB9 := Lib.hid hb9; clear hown hgrow hb9) | fail)
      try rw [← hdt]
      go_meet
      case rel => exact ⟨Y, by have h := HO9.out; rw [List.nil_append, Nat.zero_add] at h; exact h, by rw [HYL.out]; decide, HQ.out, HB9.out⟩
    · go_wp2
      go_meet
      case rel => exact ⟨k, by have h := HO5.out; rw [List.nil_append, Nat.zero_add] at h; exact h, by rw [HKN.out]; omega, (by unfold keyB; rw [if_neg (by rw [HKN.out]; exact h6)]), HB5.out⟩
  case rest =>
    obtain ⟨q, hown, hq64, hkq, hb⟩ := hcut
    have HO := Lib.hid hown
    have HKQ := Lib.hid hkq
    have HB := Lib.hid hb
    obtain ⟨m, hm⟩ : ∃ m, q.length = m := ⟨_, rfl⟩
    rw [hm] at hq64 HKQ HO
    have HM := Lib.hid hm
    clear HO5 HB5 hown hkq hb hm OZ HB2 HR2
    go_wp2
    go_loopg [3] 64 (fun gk v3 wr => ∃ j : Nat, gk = 64 - j ∧ m + j ≤ 64 ∧ wr.ownsRow w.heap.size 5 1 v3 (m + j) (bytesV (q ++ List.replicate j 0)) ∧ Below w.heap.size w wr)
    case atStart => exact ⟨0, rfl, by omega, by simpa using HO.out, HB.out⟩
    case round =>
      obtain ⟨j, rfl, hj, hown, hbel⟩ := hrel
      have hsr := hbel.size
      have HO1 := Lib.hid hown
      have HB1 := Lib.hid hbel
      obtain ⟨A3, n3, c3, rfl, hn3⟩ : ∃ A n c, u3 = .slice A n c ∧ n = m + j := by
        rcases Joins.ownsRow_forms hown with ⟨rfl, h0⟩ | ⟨g, cap, rfl⟩
        · exact ⟨_, _, _, rfl, h0.symm⟩
        · exact ⟨_, _, _, rfl, rfl⟩
      subst hn3
      clear hown hbel HO HB
      by_cases hlt : m + j < 64
      · have hlI : (m : Int) + (j : Int) < 64 := by omega
        go_wp2_with (first | (at_builtin; refine wpList_append_own _ rfl (.tmp 19) (.tmp 20) 35 rfl w.heap.size 5 i0 (.int .u8 0) 1 1 Try.underlying35 hi0 hz0 hz1 hz2 rfl (by decide) _ (m + j) _ rfl (HO1.out.alloc _) ⟨wr.heap.size, 0, none⟩ 1 1 [.int .u8 0] rfl rfl (cell_one_at _ _ _ _ rfl) (oneB _) (by unfold maxLen; omega) (by omega) (by simp; omega) ?_; intro v' w3 hown' hgrow _; have hb3 : Below w.heap.size w w3 := (HB1.out.alloc hsr _).grown hgrow (by simp; omega) (own_base' HO1.out); have HO3 := Lib.hid hown'; have HB3 := Lib.hid hb3; clear hown' hgrow hb3) | fail)
        go_roundg (64 - (j + 1))
        case measure => omega
        case rel =>
          refine ⟨j + 1, rfl, by omega, ?_, HB3.out⟩
          have ho := HO3.out
          rw [show (Value.int IntKind.u8 0) = Value.int IntKind.u8 ((0#8).toNat : Int) from rfl, bytesV_snoc] at ho
          rw [show q ++ List.replicate (j + 1) 0 = q ++ List.replicate j 0 ++ [0] by rw [List.append_assoc, List.replicate_succ']]
          exact ho
      · have hlI : ¬ (m : Int) + (j : Int) < 64 := by omega
        have HE9 := Lib.hid (show EqN wr (keyB k) (.slice A3 (m + j) c3) from by
          rw [HKQ.out, show 64 - m = j by omega]
          exact EqN.own HO1.out)
        go_wp2
        go_ret
        exact ⟨_, rfl, HE9.out, HB1.out⟩
end Go.Proofs.Ytjaakhjfpigdfaa
