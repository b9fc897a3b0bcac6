import Derived.Test.YtglbcejcibohpaaO
/-! RegionFirst: the law. -/
namespace Go.Proofs.Ytglbcejcibohpaa
open Go.RowKit
set_option linter.unusedVariables false
set_option linter.unusedSimpArgs false
theorem fits_first {b n : Int} : ∀ {l : List Ext} {p : Int}, freeF b p l → ∀ {f : Ext}, f ∈ l → n ≤ f.2 → ∃ e, fitsE l n = some e ∧ e ∈ l ∧ n ≤ e.2 ∧ e.1 ≤ f.1
  | [], _, _, f, hf, _ => by simp at hf
  | x :: l, p, h, f, hf, hn => by
    have hx := h.1
    unfold liesE at hx
    by_cases hc : n ≤ x.2
    · refine ⟨x, by rw [fitsE, if_pos hc], by simp, hc, ?_⟩
      rcases List.mem_cons.1 hf with rfl | hf
      · exact Int.le_refl _
      · have := freeF_lies h.2 f hf; omega
    · rcases List.mem_cons.1 hf with rfl | hf
      · exact absurd hn hc
      · obtain ⟨e, h1, h2, h3, h4⟩ := fits_first h.2 hf hn
        exact ⟨e, by rw [fitsE, if_neg hc]; exact h1, by simp [h2], h3, h4⟩
theorem first_ok {b n a : Int} {l : List Ext} (hb : 0 ≤ b ∧ b ≤ 4096) (h : freeE b l) (hn : 1 ≤ n) (hh : hasB l a n = true) :
    ∃ x, takeC b l n = ((x, n), withoutE l (x, n), 0) ∧ x ≤ a ∧ 0 ≤ x ∧ x + n ≤ 4096 ∧ hasB l x n = true ∧ liesE 4096 (x, n) := by
  have h3 := (of_decide_eq_true hh).2.2
  obtain ⟨f, hf, h1, h2⟩ := h3
  simp only at h1 h2
  obtain ⟨e, g1, g2, g3, g4⟩ := fits_first (n := n) h hf (by omega)
  have hl := (freeF_lies h e g2).1
  unfold liesE at hl
  have hL : liesE 4096 (e.1, n) := by unfold liesE; simp only; omega
  refine ⟨e.1, ?_, by omega, by omega, by omega, ?_, hL⟩
  · unfold takeC
    rw [if_pos (check_yes hb h), if_neg (by omega), g1]
    rfl
  · exact has_yes (freeF_wide hb.2 h) hL ⟨e, g2, by simp only; omega, by simp only; omega⟩
set_option maxRecDepth 100000 in
set_option maxHeartbeats 4000000 in
theorem regionFirst_any (b : Int) (l0 : List Ext) (A : Option Addr) (cap : Nat) (n a : Int) (w : World) (hb : I64 b) (hr0 : RdE w A l0) (hl0 : l0.length ≤ cap) (hn : I64 n) (ha : I64 a) :
    Calls Try.prog 5 #[.int .i64 b, .slice A l0.length cap, .int .i64 n, .int .i64 a] w fun e w' => e = .returned (.bool true) ∧ Below w.heap.size w w' := by
  have FW := Lib.hid (fun w' => few_any l0 A cap w' hl0 hr0.1)
  have hr := hr0.take 5000
  have hl : (l0.take 5000).length ≤ cap := by rw [List.length_take]; omega
  obtain ⟨l, hL⟩ : ∃ l, l0.take 5000 = l := ⟨_, rfl⟩
  rw [hL] at FW hr hl
  have hm := hr.1
  have HR := Lib.hid hr
  have AW := Lib.hid (awake_any w)
  clear hL hr hr0 hl0
  by_cases hn1 : n < 1
  · go_enter Try.func5, Try.ntmps5
    go_wp2_with (first | (go_at_call 14; refine AW.out.mono ?_; rintro e w1 ⟨rfl, b01⟩) | (go_at_call 10; refine (FW.out _).mono ?_; rintro e w' ⟨rfl, rfl⟩) | fail)
    go_ret
    exact ⟨rfl, b01⟩
  by_cases hn2 : 4096 < n
  · go_enter Try.func5, Try.ntmps5
    go_wp2_with (first | (go_at_call 14; refine AW.out.mono ?_; rintro e w1 ⟨rfl, b01⟩) | (go_at_call 10; refine (FW.out _).mono ?_; rintro e w' ⟨rfl, rfl⟩) | fail)
    go_ret
    exact ⟨rfl, b01⟩
  have CX := Lib.hid (fun w' (h : Below w.heap.size w w') => rcheck_any b l A cap w' hb (HR.out.below h) hl)
  by_cases hc : checkE b l = 0
  · have hb' := (check_zero hc).1
    have hf := (check_zero hc).2
    have b1 := hb'.1
    have b2 := hb'.2
    rw [hc] at CX
    have HX := Lib.hid (fun w' (h : Below w.heap.size w w') => rhas_any l A cap a n w' (HR.out.below h) hl ha hn)
    cases hh : hasB l a n with
    | false =>
      rw [hh] at HX
      clear hc hf hh
      go_enter Try.func5, Try.ntmps5
      go_wp2_with (first | (go_at_call 14; refine AW.out.mono ?_; rintro e w1 ⟨rfl, b01⟩) | (go_at_call 10; refine (FW.out _).mono ?_; rintro e w' ⟨rfl, rfl⟩) | (go_at_call 15; refine (CX.out _ b01).mono ?_; rintro e w2 ⟨rfl, b12⟩; have b02 : Below w.heap.size w w2 := b01.trans (b12.mono b01.size); clear b12) | (go_at_call 17; refine (HX.out _ b02).mono ?_; rintro e w3 ⟨rfl, b23⟩; have b03 : Below w.heap.size w w3 := b02.trans (b23.mono b02.size); clear b23) | fail)
      go_ret
      exact ⟨rfl, b03⟩
    | true =>
      obtain ⟨x, e1, e2, e3, e4, e5, e6⟩ := first_ok hb' hf (by omega) hh
      rw [hh] at HX
      have TX := Lib.hid (fun w' (h : Below w.heap.size w w') => take_any b l A cap n w' hb hn (HR.out.below h) hl)
      rw [e1] at TX
      simp only at TX
      have HY := Lib.hid (fun w' (h : Below w.heap.size w w') => rhas_any l A cap x n w' (HR.out.below h) hl ⟨by omega, by omega⟩ hn)
      rw [e5] at HY
      clear hc hf hh e1 e5 e6
      go_enter Try.func5, Try.ntmps5
      go_upto_region 6 with (first | (go_at_call 14; refine AW.out.mono ?_; rintro e w1 ⟨rfl, b01⟩) | (go_at_call 10; refine (FW.out _).mono ?_; rintro e w' ⟨rfl, rfl⟩) | (go_at_call 15; refine (CX.out _ b01).mono ?_; rintro e w2 ⟨rfl, b12⟩; have b02 : Below w.heap.size w w2 := b01.trans (b12.mono b01.size); clear b12) | (go_at_call 17; refine (HX.out _ b02).mono ?_; rintro e w3 ⟨rfl, b23⟩; have b03 : Below w.heap.size w w3 := b02.trans (b23.mono b02.size); clear b23) | fail)
      clear AW FW CX HX
      go_wp2_with (first | (go_at_call 11; refine (TX.out _ b03).mono ?_; rintro e w4 ⟨v, rfl, hv, b34⟩; have b04 : Below w.heap.size w (w4.alloc (eO x n)) := (b03.trans (b34.mono b03.size)).alloc (b03.trans (b34.mono b03.size)).size _; have d0 := cell_new w4 #[.int .i64 x, .int .i64 n] 25 (0, 0) 0 _ rfl; have d1 := cell_new w4 #[.int .i64 x, .int .i64 n] 25 (0, 0) 1 _ rfl; clear hv b34) | (go_at_call 17; refine (HY.out _ b04).mono ?_; rintro e w5 ⟨rfl, b45⟩; have b05 : Below w.heap.size w w5 := b04.trans (b45.mono b04.size); clear b45) | fail)
      go_ret
      exact ⟨rfl, b05⟩
  · obtain ⟨c, hcc⟩ : ∃ c, checkE b l = c := ⟨_, rfl⟩
    have h3 := check_range b l
    rw [hcc] at CX hc h3
    have hd : decide (c = 0) = false := decide_eq_false hc
    clear hcc
    go_enter Try.func5, Try.ntmps5
    go_wp2_with (first | (go_at_call 14; refine AW.out.mono ?_; rintro e w1 ⟨rfl, b01⟩) | (go_at_call 10; refine (FW.out _).mono ?_; rintro e w' ⟨rfl, rfl⟩) | (go_at_call 15; refine (CX.out _ b01).mono ?_; rintro e w2 ⟨rfl, b12⟩; have b02 : Below w.heap.size w w2 := b01.trans (b12.mono b01.size); clear b12) | fail)
    go_ret
    exact ⟨rfl, b02⟩
end Go.Proofs.Ytglbcejcibohpaa
