import Derived.Test.YtjaakhjfpigdfaaC2
/-! A key's block: of; block. -/
namespace Go.Proofs.Ytjaakhjfpigdfaa
open Go.RowKit
set_option linter.unusedVariables false
set_option linter.unusedSimpArgs false
theorem V8_pad (k : By) (h : k.length ≤ 64) : ((V8 (List.replicate 64 0)).toList.take 0 ++ (k.map fun b => Value.int .u8 (b.toNat : Int)) ++ (V8 (List.replicate 64 0)).toList.drop (0 + (k.map fun b => Value.int .u8 (b.toNat : Int)).length)).toArray = V8 (k ++ List.replicate (64 - k.length) 0) := by
  rw [V8_splice (List.replicate 64 0) k 0]
  rw [List.take_zero, List.nil_append, Nat.zero_add, List.drop_replicate]
theorem sum1_any (b : By) (v : Value) (w : World) (h : EqN w b v) (hl : b.length ≤ 140737488355000) : Calls Try.prog 25 #[.slice (some ⟨w.heap.size, 0, none⟩) 1 1] (w.alloc (.cells #[v] 35)) fun e w' => e = .returned (.agg (V8 (sumL b))) ∧ Below w.heap.size w w' := by
  have hs := sum_any [b] (some ⟨w.heap.size, 0, none⟩) 1 _ (RdN.new1 w b _ 35 (0, 0) _ rfl h) (by simp) (by simp; omega)
  rw [show [b].flatten = b by simp] at hs
  refine hs.mono ?_
  rintro e w' ⟨rfl, hb⟩
  exact ⟨rfl, (below_alloc1 _ _).trans (hb.mono (by simp))⟩
set_option maxRecDepth 100000 in
set_option maxHeartbeats 4000000 in
theorem of_any (k : By) (v : Value) (w : World) (hE : EqN w k v) (hl : k.length ≤ 1000000) : Calls Try.prog 86 #[v] w fun e w' => e = .returned (.agg (V8 (keyB k))) ∧ Below w.heap.size w w' := by
  have hz := zeros64b
  have hzs : (V8 (List.replicate 64 0)).size = 64 := by rw [V8_size]; rfl
  have hpad := V8_pad
  obtain ⟨Zb, hZb⟩ : ∃ Z, V8 (List.replicate 64 0) = Z := ⟨_, rfl⟩
  rw [hZb] at hz hzs hpad
  have HZ := Lib.hid hz
  have HZS := Lib.hid hzs
  have HPAD := Lib.hid hpad
  clear hz hzs hpad hZb
  have hz32 := zeros32
  have hzs32 : (V8 (List.replicate 32 0)).size = 32 := by rw [V8_size]; rfl
  obtain ⟨Zr, hZr⟩ : ∃ Z, V8 (List.replicate 32 0) = Z := ⟨_, rfl⟩
  rw [hZr] at hz32 hzs32
  have HZ32 := Lib.hid hz32
  have HZS32 := Lib.hid hzs32
  clear hz32 hzs32 hZr
  have HE := Lib.hid hE
  obtain ⟨A, c, rfl, hc, hr, hn⟩ := hE
  have hkb := keyB_len k
  have HKB := Lib.hid hkb
  have HSK := Lib.hid (show (Try.prog.info? 74).map (·.size) = some (V8 (keyB k)).size by rw [V8_size, hkb]; kernel_rfl)
  have HZK := Lib.hid (show Zb.size = (V8 (keyB k)).size by rw [V8_size, hkb]; exact HZS.out)
  obtain ⟨n, hkn⟩ : ∃ n, k.length = n := ⟨_, rfl⟩
  rw [hkn] at hc hl HE ⊢
  have HKN := Lib.hid hkn
  clear hr hn hkb hkn
  have w1 := heap_new w (.cells Zb 74) w.heap.size rfl
  go_enter Try.func86, Try.ntmps86
  go_upto_region 2 with (fail)
  rw [← HZ.out]
  obtain ⟨W2, hW2⟩ : ∃ W, (w.alloc (.cells Zb 74)).alloc (.cells Zb 74) = W := ⟨_, rfl⟩
  obtain ⟨g3, hg3⟩ : ∃ g, w.heap.size + 1 = g := ⟨_, rfl⟩
  have Z2 := Lib.hid (show W2.heap[w.heap.size]? = some (.cells Zb 74 (0, 0)) by rw [← hW2]; exact heap_old _ trivial (heap_new _ _ _ rfl))
  have Z3 := Lib.hid (show W2.heap[g3]? = some (.cells Zb 74 (0, 0)) by rw [← hW2, ← hg3]; exact heap_new _ _ _ (by simp))
  have B2 := Lib.hid (show Below w.heap.size w W2 by rw [← hW2]; exact ((Below.refl _ _).alloc (Nat.le_refl _) _).alloc (by simp) _)
  have HG3 := Lib.hid hg3
  rw [hW2, hg3]
  clear hW2 hg3 w1
  go_upto_if 7 with (fail)
  go_cut [0, 4] from 8 to 11 (fun v0 v4 wx => ∃ q : By, EqN wx q v0 ∧ q.length ≤ 64 ∧ keyB k = q ++ List.replicate (64 - q.length) 0 ∧ wx.heap[w.heap.size]? = some (.cells Zb 74 (0, 0)) ∧ wx.heap[g3]? = some (.cells Zb 74 (0, 0)) ∧ Below w.heap.size w wx)
  case first =>
    by_cases h6 : 64 < n
    · have hdt : decide ((64 : Int) < (n : Int)) = true := by simp; omega
      have S1 := Lib.hid (sum1_any k (.slice A n c) W2 (HE.out.below B2.out) (by rw [HKN.out]; omega))
      have hsl := sumL_len k
      have HQ := Lib.hid (show keyB k = sumL k ++ List.replicate (64 - (sumL k).length) 0 by rw [sumL_len]; unfold keyB; rw [if_pos (by rw [HKN.out]; exact h6)])
      obtain ⟨Y, hY⟩ : ∃ Y, sumL k = Y := ⟨_, rfl⟩
      rw [hY] at S1 hsl HQ
      have HSY := Lib.hid (show (Try.prog.info? 25).map (·.size) = some (V8 Y).size by rw [V8_size, hsl]; kernel_rfl)
      have HZY := Lib.hid (show Zr.size = (V8 Y).size by rw [V8_size, hsl, HZS32.out])
      have HYL := Lib.hid hsl
      clear hsl hY
      go_wp2_with fail
      refine S1.out.mono ?_
      rintro e w3 ⟨rfl, hb3⟩
      have Z23 := Lib.hid (keepH hb3 Z2.out)
      have Z33 := Lib.hid (keepH hb3 Z3.out)
      have HB3 := Lib.hid (B2.out.trans (hb3.mono B2.out.size))
      have hsf := slice25 ⟨w3.heap.size, 0, none⟩
      clear S1 hb3 Z2 Z3 B2
      go_upto_region 4 with (first | ((with_reducible show wpList _ _ _ (⟨none, .store 25 (.tmp 4) (.tmp 10), _, _, _, _⟩ :: _) _ _); rw [← HZ32.out]; refine wpList_store_row rfl 25 (.tmp 4) (.tmp 10) rfl w3.heap.size (V8 Y) rfl rfl 25 _ (heap_new _ _ _ rfl) HSY.out HZY.out (V8_one _) ?_) | fail)
      generalize hW5 : (World.setRow _ _ _) = W5
      have b5 : Below w3.heap.size w3 W5 := by rw [← hW5]; exact below_setRow _ _ ((Below.refl _ _).alloc (Nat.le_refl _) _) (Nat.le_refl _)
      have y5 : W5.heap[w3.heap.size]? = some (.cells (V8 Y) 25 (0, 0)) := by rw [← hW5]; exact setRow_heap _ _ _ _ _ _ (heap_new _ _ _ rfl)
      have HE5 := Lib.hid (EqN.arr y5 32 HYL.out (by decide))
      have Z25 := Lib.hid (keepH b5 Z23.out)
      have Z35 := Lib.hid (keepH b5 Z33.out)
      have HB5 := Lib.hid (HB3.out.trans (b5.mono HB3.out.size))
      clear hW5 b5 y5 Z23 Z33 HB3
      go_wp2
      try rw [← hdt]
      go_meet
      case rel => exact ⟨Y, HE5.out, by rw [HYL.out]; decide, HQ.out, Z25.out, Z35.out, HB5.out⟩
    · go_wp2
      go_meet
      case rel => exact ⟨k, HE.out.below B2.out, by rw [HKN.out]; omega, (by unfold keyB; rw [if_neg (by rw [HKN.out]; exact h6)]), Z2.out, Z3.out, B2.out⟩
  case rest =>
    clear Z2 Z3 B2
    obtain ⟨q, hEq, hq64, hkq, z2, z3, hb⟩ := hcut
    obtain ⟨A', c', rfl, hc', hr', hn'⟩ := hEq
    have hcp : (Builtin.copy_ #[35, 35] 3 #[.slice (some ⟨g3, 0, none⟩) 64 64, .slice A' q.length c']).run Try.prog wc = .ok (goInt q.length) (wc.setRow g3 (V8 (keyB k))) := by
      rw [hkq]
      rcases A' with _ | a
      · obtain rfl := hn' rfl
        obtain rfl : q = [] := List.eq_nil_of_length_eq_zero (by omega)
        have hz0 : Zb = V8 ([] ++ List.replicate (64 - ([] : By).length) 0) := by rw [← HPAD.out [] (by decide)]; simp
        rw [← hz0, setRow_self _ _ _ _ z3]
        exact run_copy_nil (P := Try.prog) wc 35 35 3 5 ⟨g3, 0, none⟩ 64 64 Try.underlying35 (by kernel_rfl)
      · have h := run_copy_row (P := Try.prog) wc 35 35 3 5 g3 0 64 64 a q.length c' Zb 74 (q.map fun b => Value.int .u8 (b.toNat : Int)) Try.underlying35 (by kernel_rfl) z3 (by rw [List.length_map]; show q.length = min q.length 64; omega) (fun j v hj => RdB.v8 hr' j v (by simpa [V8] using hj)) (by rw [List.length_map, HZS.out]; omega) (by
          intro v hv
          obtain ⟨b, _, rfl⟩ := List.mem_map.1 hv
          rfl)
        rw [HPAD.out q hq64, List.length_map] at h
        exact h
    have z2' : (wc.setRow g3 (V8 (keyB k))).heap[w.heap.size]? = some (.cells Zb 74 (0, 0)) := by rw [setRow_other _ _ _ _ (by have := HG3.out; omega)]; exact z2
    have z3' := setRow_heap wc g3 _ (V8 (keyB k)) _ _ z3
    have hb' := below_setRow g3 (V8 (keyB k)) hb (show w.heap.size ≤ g3 by have := HG3.out; omega)
    have hsf := slice74 ⟨g3, 0, none⟩
    obtain ⟨W9, hW9⟩ : ∃ W, wc.setRow g3 (V8 (keyB k)) = W := ⟨_, rfl⟩
    rw [hW9] at hcp z2' z3' hb'
    obtain ⟨m, hm⟩ : ∃ m, q.length = m := ⟨_, rfl⟩
    rw [hm] at hcp ⊢
    have Z2 := Lib.hid z2'
    have Z3 := Lib.hid z3'
    have HB := Lib.hid hb'
    clear hkq z2 z3 hb hc' hr' hn' z2' z3' hb' hW9 hm hq64
    go_wp2_with (first | ((with_reducible show wpList _ _ _ (⟨some 15, .load 74 (.tmp 3), _, _, _, _⟩ :: _) _ _); refine wpList_load_row rfl 74 (.tmp 3) rfl g3 rfl 74 (V8 (keyB k)) _ Z3.out Try.underlying74 rfl HSK.out ?_) | ((with_reducible show wpList _ _ _ (⟨none, .store 74 (.tmp 2) (.tmp 15), _, _, _, _⟩ :: _) _ _); refine wpList_store_row rfl 74 (.tmp 2) (.tmp 15) rfl w.heap.size (V8 (keyB k)) rfl rfl 74 _ Z2.out HSK.out HZK.out (V8_one _) ?_) | fail)
    have gz := setRow_heap W9 w.heap.size _ (V8 (keyB k)) _ _ Z2.out
    have hrv := run_loadVar_row (P := Try.prog) (W9.setRow w.heap.size (V8 (keyB k))) w.heap.size 74 74 (V8 (keyB k)) (0, 0) _ gz Try.underlying74 rfl HSK.out
    exact bodyPost_ret (v := .agg (V8 (keyB k))) (by simp [results, Try.results86, asAddr, hrv, Act.put]) rfl ⟨rfl, below_setRow _ _ HB.out (Nat.le_refl _)⟩
end Go.Proofs.Ytjaakhjfpigdfaa
