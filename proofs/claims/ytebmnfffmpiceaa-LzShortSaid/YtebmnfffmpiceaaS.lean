import Derived.Test.YtebmnfffmpiceaaQ
/-! The laws' walks. -/
namespace Go.Proofs.Ytebmnfffmpiceaa
open Go.RowKit
set_option linter.unusedVariables false
set_option linter.unusedSimpArgs false
theorem RdT.take {w : World} {A : Option Addr} {l : List Tok} (h : RdT w A l) (n : Nat) : RdT w A (l.take n) :=
  ⟨by have := h.1; rw [List.length_take]; omega, fun j hj => by
    have hj' : j < l.length := by rw [List.length_take] at hj; omega
    obtain ⟨ad, e, h0, h1, h2⟩ := h.2 j hj'
    exact ⟨ad, e, by rw [List.getElem_take]; exact h0, by rw [List.getElem_take]; exact h1, by rw [List.getElem_take]; exact h2⟩⟩
set_option maxRecDepth 100000 in
set_option maxHeartbeats 4000000 in
theorem lzTokens_any (l : By) (A : Option Addr) (cap : Nat) (w : World) (hr : RdB w A l) (hl : l.length ≤ cap) (_hs : l.length * 1 ≤ 140737488351232) :
    Calls Try.prog 3 #[.slice A l.length cap] w fun e w' => e = .returned (.bool true) ∧ Below w.heap.size w w' := by
  have hm := hr.1
  by_cases hbig : 65536 < l.length
  · have T1 := Lib.hid (tokens_long l A cap w hm hl hbig)
    have T2 := Lib.hid (rtokens_long l A cap w hm hl hbig)
    have SM := Lib.hid (fun w => same_yes [] none none 0 0 w ⟨by simp, fun j hj => by simp at hj⟩ ⟨by simp, fun j hj => by simp at hj⟩ (Nat.le_refl _) (Nat.le_refl _))
    clear hr
    go_enter Try.func3, Try.ntmps3
    go_wp2_with (first | (go_at_call 11; refine T1.out.mono ?_; rintro e w1 ⟨rfl, rfl⟩) | (go_at_call 12; refine T2.out.mono ?_; rintro e w1 ⟨rfl, rfl⟩) | (go_at_call 13; refine (SM.out _).mono ?_; rintro e w1 ⟨rfl, b1⟩) | (go_at_call 14; refine (awake_any _).mono ?_; rintro e w2 ⟨rfl, b2⟩) | fail)
    go_ret
    exact ⟨rfl, b1.trans (b2.mono b1.size)⟩
  · have hrt := hr.take 1500
    have hlt : (l.take 1500).length ≤ cap := by rw [List.length_take]; omega
    have hst : (l.take 1500).length ≤ 65536 := by rw [List.length_take]; omega
    have CU := Lib.hid (cut_any l A cap w hl hm)
    have hs : l.length ≤ 65536 := by omega
    generalize l.take 1500 = b at *
    have hmb := hrt.1
    have T1 := Lib.hid (tokens_ok b A cap w hrt hlt hst)
    have T2 := Lib.hid (fun w1 (h : Below w.heap.size w w1) => rtokens_ok b A cap w1 (RdR.below (R' := EqB) hrt h (fun _ _ h => h)) hlt hst)
    generalize toks b 0 = T at *
    clear hr hrt
    go_enter Try.func3, Try.ntmps3
    go_wp2_with (first | (go_at_call 10; refine CU.out.mono ?_; rintro e w1 ⟨rfl, rfl⟩) | fail)
    refine T1.out.mono ?_
    rintro e w1 ⟨v1, rfl, o1, b1⟩
    have O1 := Lib.hid o1
    clear o1
    go_wp2_with fail
    refine (T2.out _ b1).mono ?_
    rintro e w2 ⟨v2, rfl, o2, b2⟩
    obtain ⟨A1, c1, rfl, h1, r1⟩ := RdT.own (own_below' O1.out b2)
    obtain ⟨A2, c2, rfl, h2, r2⟩ := RdT.own o2
    have SM := Lib.hid (same_yes T A1 A2 c1 c2 w2 r1 r2 h1 h2)
    have b12 := b1.trans (b2.mono b1.size)
    clear o2 r1 r2 h1 h2
    go_wp2_with (first | (go_at_call 13; refine SM.out.mono ?_; rintro e w3 ⟨rfl, b3⟩; have b123 := b12.trans (b3.mono b12.size)) | (go_at_call 14; refine (awake_any _).mono ?_; rintro e w4 ⟨rfl, b4⟩) | fail)
    go_ret
    exact ⟨rfl, b123.trans (b4.mono b123.size)⟩
set_option maxRecDepth 100000 in
set_option maxHeartbeats 4000000 in
theorem lzLongest_any (l : By) (A : Option Addr) (cap : Nat) (a : Int) (w : World) (hr : RdB w A l) (hl : l.length ≤ cap) (_hs : l.length * 1 ≤ 140737488351232) (ha : -9223372036854775808 ≤ a ∧ a ≤ 9223372036854775807) :
    Calls Try.prog 8 #[.slice A l.length cap, .int .i64 a] w fun e w' => e = .returned (.bool true) ∧ Below w.heap.size w w' := by
  have hm := hr.1
  have hcut : ∃ b : By, (b.length ≤ cap ∧ RdB w A b) ∧ ((65536 < l.length ∧ b = l) ∨ (l.length ≤ 65536 ∧ b = l.take 1500)) := by
    by_cases hbig : 65536 < l.length
    · exact ⟨l, ⟨hl, hr⟩, Or.inl ⟨hbig, rfl⟩⟩
    · exact ⟨l.take 1500, ⟨by rw [List.length_take]; omega, hr.take 1500⟩, Or.inr ⟨by omega, rfl⟩⟩
  have CU := Lib.hid (cut_any l A cap w hl hm)
  obtain ⟨b, ⟨hlb, hrb⟩, hb⟩ := hcut
  have hmb := hrb.1
  have L1 := longest_any b A cap a w hrb hlb ha
  have L2 := fun w1 (h : Below w.heap.size w w1) => rlongest_any b A cap a w1 (RdR.below (R' := EqB) hrb h (fun _ _ h => h)) hlb ha
  obtain ⟨⟨⟨d, n, x⟩, q⟩, hq⟩ : ∃ E, longE b a = E := ⟨_, rfl⟩
  rw [hq] at L1 L2
  replace L1 := Lib.hid L1
  replace L2 := Lib.hid L2
  obtain ⟨a1, a2⟩ := ha
  clear hr hrb hq
  rcases hb with ⟨hbig, rfl⟩ | ⟨hbig, hbe⟩
  · go_enter Try.func8, Try.ntmps8
    go_wp2_with (first | (go_at_call 19; refine L1.out.mono ?_; rintro e w1 ⟨rfl, b1⟩; have b1a := b1.alloc b1.size (tO d n x)) | (go_at_call 20; refine (L2.out _ b1a).mono ?_; rintro e w2 ⟨rfl, b2⟩; have hc := (fun (k : Nat) (v : Value) (h : (w1.alloc (tO d n x)).cell? ⟨w1.heap.size, k, none⟩ = some v) => (b2.cell (p := ⟨w1.heap.size, k, none⟩) (by simp)).trans h); have c0 := hc 0 (.int .i64 d) (cell_new _ _ _ _ _ _ rfl); have c1 := hc 1 (.int .i64 n) (cell_new _ _ _ _ _ _ rfl); have c2 := hc 2 (.int .u8 x.toNat) (cell_new _ _ _ _ _ _ rfl); have b2a := (b1a.trans (b2.mono b1a.size)); have z1 : w1.heap.size < w2.heap.size := (by have := b2.size; simp at this; omega); clear hc) | (go_at_call 14; refine (awake_any _).mono ?_; rintro e w4 ⟨rfl, b4⟩) | fail)
    go_ret
    exact ⟨rfl, (b2a.alloc b2a.size _).trans (b4.mono (by have := b2a.size; simp; omega))⟩
  · rw [← hbe] at CU
    clear hbe
    go_enter Try.func8, Try.ntmps8
    go_wp2_with (first | (go_at_call 10; refine CU.out.mono ?_; rintro e w1 ⟨rfl, rfl⟩) | (go_at_call 19; refine L1.out.mono ?_; rintro e w1 ⟨rfl, b1⟩; have b1a := b1.alloc b1.size (tO d n x)) | (go_at_call 20; refine (L2.out _ b1a).mono ?_; rintro e w2 ⟨rfl, b2⟩; have hc := (fun (k : Nat) (v : Value) (h : (w1.alloc (tO d n x)).cell? ⟨w1.heap.size, k, none⟩ = some v) => (b2.cell (p := ⟨w1.heap.size, k, none⟩) (by simp)).trans h); have c0 := hc 0 (.int .i64 d) (cell_new _ _ _ _ _ _ rfl); have c1 := hc 1 (.int .i64 n) (cell_new _ _ _ _ _ _ rfl); have c2 := hc 2 (.int .u8 x.toNat) (cell_new _ _ _ _ _ _ rfl); have b2a := (b1a.trans (b2.mono b1a.size)); have z1 : w1.heap.size < w2.heap.size := (by have := b2.size; simp at this; omega); clear hc) | (go_at_call 14; refine (awake_any _).mono ?_; rintro e w4 ⟨rfl, b4⟩) | fail)
    go_ret
    exact ⟨rfl, (b2a.alloc b2a.size _).trans (b4.mono (by have := b2a.size; simp; omega))⟩
end Go.Proofs.Ytebmnfffmpiceaa
