import Derived.Test.YtglbcejcibohpaaC
/-! Check, Sum, Has, All, few, Same. -/
namespace Go.Proofs.Ytglbcejcibohpaa
open Go.RowKit
set_option linter.unusedVariables false
set_option linter.unusedSimpArgs false
theorem check_any (b : Int) (l : List Ext) (A : Option Addr) (cap : Nat) (w : World) (hb : I64 b) (hr : RdE w A l) (hl : l.length ≤ cap) :
    Calls Try.prog 24 #[.int .i64 b, .slice A l.length cap] w fun e w' => e = .returned (.int .i64 (checkE b l)) ∧ Below w.heap.size w w' := by
  obtain ⟨b1, b2⟩ := hb
  have hm := hr.1
  by_cases hbad : b < 0 ∨ 4096 < b
  · rw [check_bad hbad]
    have hc : b < 0 ∨ (0 ≤ b ∧ 4096 < b) := by omega
    clear hbad
    rcases hc with h | ⟨h1, h2⟩
    all_goals
      go_enter Try.func24, Try.ntmps24
      go_wp2
      go_ret
      exact ⟨rfl, Below.refl _ _⟩
  · have hb0 : 0 ≤ b ∧ b ≤ 4096 := by omega
    have FR := free_any b hb0 l A cap w hr hl
    have HR := Lib.hid hr
    clear hr
    by_cases hf : freeE b l
    · rw [check_yes hb0 hf]
      rw [show freeB b l = true from decide_eq_true hf] at FR
      replace FR := Lib.hid FR
      obtain ⟨h1, h2⟩ := hb0
      clear hbad hf
      go_enter Try.func24, Try.ntmps24
      go_wp2_with (first | (go_at_call 36; refine FR.out.mono ?_; rintro e w1 ⟨rfl, b1⟩) | fail)
      go_ret
      exact ⟨rfl, b1⟩
    · rw [check_no hb0 hf]
      rw [show freeB b l = false from decide_eq_false hf] at FR
      replace FR := Lib.hid FR
      obtain ⟨h1, h2⟩ := hb0
      clear hbad hf
      go_enter Try.func24, Try.ntmps24
      go_wp2_with (first | (go_at_call 36; refine FR.out.mono ?_; rintro e w1 ⟨rfl, b1⟩) | fail)
      go_ret
      exact ⟨rfl, b1⟩
theorem sumE_snoc (l : List Ext) (k : Nat) (h : k < l.length) : sumE (l.take (k + 1)) = sumE (l.take k) + l[k].2 := by
  rw [List.take_succ_eq_append_getElem h, sumE_app]; simp [sumE]
theorem sum_take {l : List Ext} (h : freeE 4096 l) (k : Nat) : 0 ≤ sumE (l.take k) ∧ sumE (l.take k) ≤ 4097 := by
  have := sum_bound (freeF_take k h) (by omega)
  omega
/-- The sum, or why there is none. -/
def sumC (l : List Ext) : Int × Int := if freeE 4096 l then (sumE l, 0) else (0, 100)
theorem i4096 : (0 : Int) ≤ 4096 ∧ (4096 : Int) ≤ 4096 := ⟨by omega, by omega⟩
set_option maxRecDepth 100000 in
set_option maxHeartbeats 4000000 in
theorem sum_any (l : List Ext) (A : Option Addr) (cap : Nat) (w : World) (hr : RdE w A l) (hl : l.length ≤ cap) :
    Calls Try.prog 20 #[.slice A l.length cap] w fun e w' => e = .returned (.tuple #[.int .i64 (sumC l).1, .int .i64 (sumC l).2]) ∧ Below w.heap.size w w' := by
  have hm := hr.1
  have FR := free_any 4096 i4096 l A cap w hr hl
  have HR := Lib.hid hr
  clear hr
  by_cases hf : freeE 4096 l
  · rw [show freeB 4096 l = true from decide_eq_true hf] at FR
    rw [show sumC l = (sumE l, 0) by unfold sumC; rw [if_pos hf]]
    replace FR := Lib.hid FR
    have HF := Lib.hid hf
    clear hf
    go_enter Try.func20, Try.ntmps20
    go_wp2_with (first | (go_at_call 36; refine FR.out.mono ?_; rintro e w1 ⟨rfl, b1⟩) | fail)
    have s1 := b1.size
    go_loopw [4, 12] (fun s i wr => ∃ k : Nat, k ≤ l.length ∧ i = .int .i64 k ∧ s = .int .i64 (sumE (l.take k)) ∧ Below w.heap.size w wr) (fun _ i _ => l.length - (intOf i).toNat)
    case atStart => exact ⟨0, Nat.zero_le _, rfl, rfl, b1⟩
    case round =>
      obtain ⟨k, hk, rfl, rfl, hbel⟩ := hrel
      have hsr := hbel.size
      have hsb := sum_take HF.out k
      by_cases hlt : k < l.length
      · obtain ⟨ad, hAd, c0, c1, i1, i2⟩ := (HR.out.below hbel).2 k hlt
        subst hAd
        have hsn := sumE_snoc l k hlt
        have hlie := (freeF_lies HF.out _ (List.getElem_mem hlt)).1
        obtain ⟨⟨a, n⟩, ht⟩ : ∃ t, l[k] = t := ⟨_, rfl⟩
        rw [ht] at c0 c1 hsn hlie
        unfold liesE at hlie
        simp only at c0 c1 hsn hlie
        obtain ⟨q1, q2, q3⟩ := hlie
        have Hsn := Lib.hid hsn
        clear ht hsn i1 i2
        generalize sumE (l.take k) = S at *
        go_wp2
        go_roundw
        case rel => exact ⟨k + 1, by omega, by go_num, by rw [Hsn.out], hbel.alloc hsr _⟩
        case measure => simp [intOf]; omega
      · rw [List.take_of_length_le (by omega)] at hsb ⊢
        go_wp2
        go_ret2
        exact ⟨rfl, hbel⟩
  · rw [show freeB 4096 l = false from decide_eq_false hf] at FR
    rw [show sumC l = (0, 100) by unfold sumC; rw [if_neg hf]]
    replace FR := Lib.hid FR
    clear hf
    go_enter Try.func20, Try.ntmps20
    go_wp2_with (first | (go_at_call 36; refine FR.out.mono ?_; rintro e w1 ⟨rfl, b1⟩) | fail)
    go_ret2
    exact ⟨rfl, b1⟩
set_option maxRecDepth 100000 in
set_option maxHeartbeats 4000000 in
theorem rsum_any (l : List Ext) (A : Option Addr) (cap : Nat) (w : World) (hr : RdE w A l) (hl : l.length ≤ cap) :
    Calls Try.prog 23 #[.slice A l.length cap] w fun e w' => e = .returned (.tuple #[.int .i64 (sumC l).1, .int .i64 (sumC l).2]) ∧ Below w.heap.size w w' := by
  have hm := hr.1
  have FR := rcheck_any 4096 l A cap w ⟨by omega, by omega⟩ hr hl
  have HR := Lib.hid hr
  clear hr
  by_cases hf : freeE 4096 l
  · rw [check_yes i4096 hf] at FR
    rw [show sumC l = (sumE l, 0) by unfold sumC; rw [if_pos hf]]
    replace FR := Lib.hid FR
    have HF := Lib.hid hf
    clear hf
    go_enter Try.func23, Try.ntmps23
    go_wp2_with (first | (go_at_call 15; refine FR.out.mono ?_; rintro e w1 ⟨rfl, b1⟩) | fail)
    have s1 := b1.size
    go_loopw [4, 5] (fun s i wr => ∃ k : Nat, k ≤ l.length ∧ i = .int .i64 k ∧ s = .int .i64 (sumE (l.take k)) ∧ wr = w1) (fun _ i _ => l.length - (intOf i).toNat)
    case atStart => exact ⟨0, Nat.zero_le _, rfl, rfl, rfl⟩
    case round =>
      obtain ⟨k, hk, rfl, rfl, rfl⟩ := hrel
      have hsb := sum_take HF.out k
      by_cases hlt : k < l.length
      · obtain ⟨ad, hAd, c0, c1, i1, i2⟩ := (HR.out.below b1).2 k hlt
        subst hAd
        have hsn := sumE_snoc l k hlt
        have hlie := (freeF_lies HF.out _ (List.getElem_mem hlt)).1
        obtain ⟨⟨a, n⟩, ht⟩ : ∃ t, l[k] = t := ⟨_, rfl⟩
        rw [ht] at c0 c1 hsn hlie
        unfold liesE at hlie
        simp only at c0 c1 hsn hlie
        obtain ⟨q1, q2, q3⟩ := hlie
        have Hsn := Lib.hid hsn
        clear ht hsn i1 i2
        generalize sumE (l.take k) = S at *
        go_wp2
        go_roundw
        case rel => exact ⟨k + 1, by omega, by go_num, by rw [Hsn.out], trivial⟩
        case measure => simp [intOf]; omega
      · rw [List.take_of_length_le (by omega)] at hsb ⊢
        go_wp2
        go_ret2
        exact ⟨rfl, b1⟩
  · rw [check_no i4096 hf] at FR
    rw [show sumC l = (0, 100) by unfold sumC; rw [if_neg hf]]
    replace FR := Lib.hid FR
    clear hf
    go_enter Try.func23, Try.ntmps23
    go_wp2_with (first | (go_at_call 15; refine FR.out.mono ?_; rintro e w1 ⟨rfl, b1⟩) | fail)
    go_ret2
    exact ⟨rfl, b1⟩
theorem few_any (l : List Ext) (A : Option Addr) (cap : Nat) (w : World) (hl : l.length ≤ cap) (hm : l.length ≤ 9223372036854775807) :
    Calls Try.prog 10 #[.slice A l.length cap] w fun e w' => e = .returned (.slice A (l.take 5000).length cap) ∧ w = w' := by
  by_cases h : 5000 < l.length
  · have e : (l.take 5000).length = 5000 := by rw [List.length_take]; omega
    rw [e]
    go_enter Try.func10, Try.ntmps10
    go_wp2
    go_ret
    exact ⟨rfl, rfl⟩
  · have e : (l.take 5000).length = l.length := by rw [List.length_take]; omega
    rw [e]
    go_enter Try.func10, Try.ntmps10
    go_wp2
    go_ret
    exact ⟨rfl, rfl⟩
set_option maxRecDepth 100000 in
set_option maxHeartbeats 4000000 in
theorem same_yes (l : List Ext) (A B : Option Addr) (c d : Nat) (w : World) (hA : RdE w A l) (hB : RdE w B l) (hc : l.length ≤ c) (hd : l.length ≤ d) :
    Calls Try.prog 13 #[.slice A l.length c, .slice B l.length d] w fun e w' => e = .returned (.bool true) ∧ Below w.heap.size w w' := by
  have hm := hA.1
  have HA := Lib.hid hA
  have HB := Lib.hid hB
  clear hA hB
  go_enter Try.func13, Try.ntmps13
  go_wp2
  go_loopw [5] (fun i wr => ∃ k : Nat, k ≤ l.length ∧ i = .int .i64 k ∧ Below w.heap.size w wr) (fun i _ => l.length - (intOf i).toNat)
  case atStart => exact ⟨0, Nat.zero_le _, rfl, Below.refl _ _⟩
  case round =>
    obtain ⟨k, hk, rfl, hbel⟩ := hrel
    by_cases hlt : k < l.length
    · obtain ⟨ad, rfl, a0, a1, _⟩ := (HA.out.below hbel).2 k hlt
      obtain ⟨bd, rfl, b0, b1, _⟩ := (HB.out.below hbel).2 k hlt
      obtain ⟨⟨x, y⟩, ht⟩ : ∃ t, l[k] = t := ⟨_, rfl⟩
      rw [ht] at a0 a1 b0 b1
      simp only at a0 a1 b0 b1
      clear ht
      go_wp2
      go_quiet (fail)
      go_wp2
      go_roundw
      case rel => exact ⟨k + 1, by omega, by go_num, by repeat first | exact hbel | exact below_dr hbel _⟩
      case measure => simp [intOf]; omega
    · go_wp2
      go_ret
      exact ⟨rfl, hbel⟩
end Go.Proofs.Ytglbcejcibohpaa
