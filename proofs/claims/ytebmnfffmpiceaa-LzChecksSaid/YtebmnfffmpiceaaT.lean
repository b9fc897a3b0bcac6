import Derived.Test.YtebmnfffmpiceaaS
import Derived.Deep.RegionHeld3
/-! The laws' walks: Bytes, Back, Begins, Checks. -/
namespace Go.Proofs.Ytebmnfffmpiceaa
open Go.RowKit
set_option linter.unusedVariables false
set_option linter.unusedSimpArgs false
set_option maxRecDepth 100000 in
set_option maxHeartbeats 4000000 in
theorem lzBytes_any (l : List Tok) (A : Option Addr) (cap : Nat) (w : World) (hr : RdT w A l) (hl : l.length ≤ cap) :
    Calls Try.prog 4 #[.slice A l.length cap] w fun e w' => e = .returned (.bool true) ∧ Below w.heap.size w w' := by
  have hm := hr.1
  have hrt := hr.take 400
  have hlt : (l.take 400).length ≤ cap := by rw [List.length_take]; omega
  have CU := Lib.hid (few_any l A cap w hl hm)
  generalize l.take 400 = t at *
  have T1 := bytes_any t A cap w hrt hlt
  have T2 := fun w1 (h : Below w.heap.size w w1) => rbytes_any t A cap w1 (hrt.below h) hlt
  obtain ⟨⟨X, i, q⟩, hq⟩ : ∃ E, bytesT t [] 0 = E := ⟨_, rfl⟩
  rw [hq] at T1 T2
  simp only at T1 T2
  replace T1 := Lib.hid T1
  replace T2 := Lib.hid T2
  clear hr hrt hq
  go_enter Try.func4, Try.ntmps4
  go_wp2_with (first | (go_at_call 15; refine CU.out.mono ?_; rintro e w1 ⟨rfl, rfl⟩) | fail)
  refine T1.out.mono ?_
  rintro e w1 ⟨v1, rfl, o1, hX, b1⟩
  have O1 := Lib.hid o1
  clear o1
  go_wp2_with fail
  refine (T2.out _ b1).mono ?_
  rintro e w2 ⟨v2, rfl, o2, _, b2⟩
  obtain ⟨A1, c1, rfl, h1, r1⟩ := own_bytes (own_below' O1.out b2)
  obtain ⟨A2, c2, rfl, h2, r2⟩ := own_bytes o2
  have s1 := conv_rd (w := w2) r1 _ c1 rfl
  have s2 := conv_rd (w := w2) r2 _ c2 rfl
  generalize strV X = Y at s1 s2
  have b12 := b1.trans (b2.mono b1.size)
  clear o2 r1 r2 h1 h2
  go_wp2_with (first | (go_at_call 14; refine (awake_any _).mono ?_; rintro e w4 ⟨rfl, b4⟩) | fail)
  go_ret
  exact ⟨rfl, b12.trans (b4.mono b12.size)⟩
set_option maxRecDepth 100000 in
set_option maxHeartbeats 4000000 in
theorem lzBack_any (l : By) (A : Option Addr) (cap : Nat) (w : World) (hr : RdB w A l) (hl : l.length ≤ cap) (_hs : l.length * 1 ≤ 140737488351232) :
    Calls Try.prog 5 #[.slice A l.length cap] w fun e w' => e = .returned (.bool true) ∧ Below w.heap.size w w' := by
  have hm := hr.1
  have hrt := hr.take 1500
  have hlt : (l.take 1500).length ≤ cap := by rw [List.length_take]; omega
  have hst : (l.take 1500).length ≤ 65536 := by rw [List.length_take]; omega
  have CU := Lib.hid (fun w => cut_any l A cap w hl hm)
  generalize l.take 1500 = b at *
  have hmb := hrt.1
  have T1 := fun w1 (h : Below w.heap.size w w1) => tokens_ok b A cap w1 (RdR.below (R' := EqB) hrt h (fun _ _ h => h)) hlt hst
  have BK := back b hst
  have RB := fun w1 (h : Below w.heap.size w w1) => (RdR.below (R' := EqB) hrt h (fun _ _ h => h) : RdB w1 A b)
  generalize toks b 0 = T at *
  replace T1 := Lib.hid T1
  replace BK := Lib.hid BK
  replace RB := Lib.hid RB
  clear hr hrt
  go_enter Try.func5, Try.ntmps5
  go_wp2_with (first | (go_at_call 14; refine (awake_any _).mono ?_; rintro e w0 ⟨rfl, b0⟩) | (go_at_call 10; refine (CU.out _).mono ?_; rintro e w1 ⟨rfl, rfl⟩) | fail)
  refine (T1.out _ b0).mono ?_
  rintro e w1 ⟨v1, rfl, o1, b1⟩
  have b01 := b0.trans (b1.mono b0.size)
  obtain ⟨A1, c1, rfl, h1, r1⟩ := RdT.own o1
  have BY := bytes_any T A1 c1 w1 r1 h1
  rw [BK.out] at BY
  replace BY := Lib.hid BY
  clear o1 r1 h1
  go_wp2_with fail
  refine BY.out.mono ?_
  rintro e w2 ⟨v2, rfl, o2, _, b2⟩
  have b02 := b01.trans (b2.mono b01.size)
  obtain ⟨A2, c2, rfl, h2, r2⟩ := own_bytes o2
  have s1 := conv_rd (w := w2) (RB.out w2 b02) b.length cap rfl
  have s2 := conv_rd (w := w2) r2 b.length c2 rfl
  generalize strV b = Y at s1 s2
  clear o2 r2 h2
  go_wp2
  go_ret
  exact ⟨rfl, b02⟩
theorem keepA {w : World} {a : Addr} {v : Value} {o : Obj} (h : w.cell? a = some v) : (w.alloc o).cell? a = some v := cell_old o h
theorem keepB {w w' : World} {a : Addr} {v : Value} (h : Below w.heap.size w w') (hc : w.cell? a = some v) : w'.cell? a = some v := (h.cell (World.block_lt_of_cell? w _ hc)).trans hc
theorem keepD {w : World} {a : Addr} {v : Value} (h : w.cell? a = some v) : w.drew.cell? a = some v := h
theorem RdB_pre {w : World} {A : Option Addr} {p b : By} (h : RdB w A b) (hp : p <+: b) : RdB w A p := by
  obtain ⟨s, rfl⟩ := hp
  refine ⟨by have := h.1; rw [List.length_append] at this; omega, fun j hj => ?_⟩
  obtain ⟨ad, v, e, hc, hv⟩ := h.2 j (by rw [List.length_append]; omega)
  exact ⟨ad, v, e, hc, by rw [List.getElem_append_left hj] at hv; exact hv⟩
set_option maxRecDepth 100000 in
set_option maxHeartbeats 4000000 in
theorem lzBegins_any (l : List Tok) (A : Option Addr) (cap : Nat) (n : BitVec 16) (w : World) (hr : RdT w A l) (hl : l.length ≤ cap) :
    Calls Try.prog 7 #[.slice A l.length cap, .int .u16 n.toNat] w fun e w' => e = .returned (.bool true) ∧ Below w.heap.size w w' := by
  have hm := hr.1
  have hrt := hr.take 400
  have hlt : (l.take 400).length ≤ cap := by rw [List.length_take]; omega
  have h400 : (l.take 400).length ≤ 400 := by rw [List.length_take]; omega
  have CU := Lib.hid (fun w => few_any l A cap w hl hm)
  generalize l.take 400 = t at *
  have T1 := fun w1 (h : Below w.heap.size w w1) => bytes_any t A cap w1 (hrt.below h) hlt
  obtain ⟨M, hM⟩ : ∃ M, n.toNat % (t.length + 1) = M := ⟨_, rfl⟩
  have hMt : M ≤ t.length := by have := Nat.mod_lt n.toNat (show 0 < t.length + 1 by omega); omega
  have eM : (n.toNat : Int) % ((t.length : Int) + 1) = (M : Int) := by rw [← hM, Int.natCast_emod]; rfl
  have htk : (t.take M).length = M := by rw [List.length_take]; omega
  have T3 := fun w1 (h : Below w.heap.size w w1) => bytes_any (t.take M) A cap w1 ((hrt.take M).below h) (by omega)
  rw [htk] at T3
  have tk := bytesT_take t [] 0 M
  have er := bytesT_err t [] 0
  obtain ⟨⟨X, i, q⟩, hq⟩ : ∃ E, bytesT t [] 0 = E := ⟨_, rfl⟩
  obtain ⟨⟨X3, i3, q3⟩, hq3⟩ : ∃ E, bytesT (t.take M) [] 0 = E := ⟨_, rfl⟩
  rw [hq] at T1 tk er
  rw [hq3] at T3 tk
  simp only at T1 T3 tk er
  replace T1 := Lib.hid T1
  replace T3 := Lib.hid T3
  replace tk := Lib.hid tk
  replace er := Lib.hid er
  have hn := n.isLt
  clear hr hrt hq hq3 htk hM
  generalize n.toNat = N at *
  by_cases h0 : q = 0
  · subst h0
    obtain ⟨g1, _, g2⟩ := tk.out rfl
    subst g1
    have g3 := g2.length_le
    have g4 : X.take X3.length = X3 := (List.prefix_iff_eq_take.1 g2).symm
    go_enter Try.func7, Try.ntmps7
    go_wp2_with (first | (go_at_call 14; refine (awake_any _).mono ?_; rintro e w0 ⟨rfl, b0⟩) | (go_at_call 15; refine (CU.out _).mono ?_; rintro e w1 ⟨rfl, rfl⟩) | fail)
    refine (T1.out _ b0).mono ?_
    rintro e w1 ⟨v1, rfl, o1, hX, b1⟩
    have b01 := b0.trans (b1.mono b0.size)
    have O1 := Lib.hid o1
    obtain ⟨A1, c1, rfl, hc1, r1⟩ := own_bytes o1
    clear o1 r1
    go_wp2_with fail
    refine (T3.out _ b01).mono ?_
    rintro e w2 ⟨v2, rfl, o2, _, b2⟩
    have b02 := b01.trans (b2.mono b01.size)
    obtain ⟨A2, c2, rfl, hc2, r2⟩ := own_bytes o2
    obtain ⟨A1', c1', e, _, r1⟩ := own_bytes (own_below' O1.out b2)
    cases e
    have r1' := r1.take X3.length
    rw [g4] at r1'
    have s1 := fun m => conv_rd (w := w2.drewN m) r1' X3.length c1 rfl
    have s2 := fun m => conv_rd (w := w2.drewN m) r2 X3.length c2 rfl
    have hXl : X.length ≤ 9223372036854775807 := r1.1
    have hX3 : decide ((X3.length : Int) ≤ (X.length : Int)) = true := by simp; omega
    have hX3' : decide (X3.length ≤ X.length) = true := by simp; omega
    generalize strV X3 = Y at s1 s2
    have i1 : (X3.length : Int) ≤ X.length := by omega
    have i2 : (X3.length : Int) ≤ c1 := by omega
    clear r1 r1' r2 o2 g4 g2
    go_wp2
    go_quiet (fail)
    go_wp2
    go_ret
    exact ⟨rfl, by repeat first | exact b02 | exact below_dr b02 _⟩
  · have g1 := er.out h0
    subst g1
    have b1 : (q == 0) = false := by rw [beq_eq_false_iff_ne]; exact h0
    have b2 : (q != 0) = true := by rw [bne_iff_ne]; exact h0
    go_enter Try.func7, Try.ntmps7
    go_wp2_with (first | (go_at_call 14; refine (awake_any _).mono ?_; rintro e w0 ⟨rfl, b0⟩) | (go_at_call 15; refine (CU.out _).mono ?_; rintro e w1 ⟨rfl, rfl⟩) | fail)
    refine (T1.out _ b0).mono ?_
    rintro e w1 ⟨v1, rfl, o1, hX, b1⟩
    have b01 := b0.trans (b1.mono b0.size)
    obtain ⟨A1, c1, rfl, hc1, r1⟩ := own_bytes o1
    clear o1 r1
    go_wp2
    go_ret
    exact ⟨rfl, b01⟩
set_option maxRecDepth 100000 in
set_option maxHeartbeats 4000000 in
theorem lzChecks_any (d n : Int) (x : BitVec 8) (l : List Tok) (A : Option Addr) (cap : Nat) (w : World) (hd : -9223372036854775808 ≤ d ∧ d ≤ 9223372036854775807) (hn : -9223372036854775808 ≤ n ∧ n ≤ 9223372036854775807) (hr : RdT w A l) (hl : l.length ≤ cap) :
    Calls Try.prog 9 #[tV d n x, .slice A l.length cap] w fun e w' => e = .returned (.bool true) ∧ Below w.heap.size w w' := by
  have hm := hr.1
  have hrt := hr.take 400
  have hlt : (l.take 400).length ≤ cap := by rw [List.length_take]; omega
  have h400 : (l.take 400).length ≤ 400 := by rw [List.length_take]; omega
  have CU := Lib.hid (fun w => few_any l A cap w hl hm)
  generalize l.take 400 = t at *
  have T1 := fun w1 (h : Below w.heap.size w w1) => size_any t A cap w1 (hrt.below h) hlt h400
  have T2 := fun w1 (h : Below w.heap.size w w1) => rsize_any t A cap w1 (hrt.below h) hlt h400
  obtain ⟨⟨i, q⟩, hq⟩ : ∃ E, sizeT t = E := ⟨_, rfl⟩
  rw [hq] at T1 T2
  simp only at T1 T2
  replace T1 := Lib.hid T1
  replace T2 := Lib.hid T2
  have b0 : Below w.heap.size w (w.alloc (tO d n x)) := (Below.refl _ _).alloc (Nat.le_refl _) _
  have K0 := cell_new w #[.int .i64 d, .int .i64 n, .int .u8 x.toNat] 38 (0, 0) 0 _ rfl
  have K1 := cell_new w #[.int .i64 d, .int .i64 n, .int .u8 x.toNat] 38 (0, 0) 1 _ rfl
  have K2 := cell_new w #[.int .i64 d, .int .i64 n, .int .u8 x.toNat] 38 (0, 0) 2 _ rfl
  replace K0 := Lib.hid K0
  replace K1 := Lib.hid K1
  replace K2 := Lib.hid K2
  obtain ⟨C, hC⟩ : ∃ C, checkT (d, n, x) = C := ⟨_, rfl⟩
  have HC := Lib.hid hC
  clear hr hrt hq hC
  go_enter Try.func9, Try.ntmps9
  go_wp2_with (first | (go_at_call 15; refine (CU.out _).mono ?_; rintro e w1 ⟨rfl, rfl⟩) | fail)
  refine (T1.out _ b0).mono ?_
  rintro e w1 ⟨rfl, b1⟩
  have b01 := b0.trans (b1.mono b0.size)
  go_wp2_with fail
  refine (T2.out _ b01).mono ?_
  rintro e w2 ⟨rfl, b2⟩
  have b02 := b01.trans (b2.mono b01.size)
  have lt0 : w.heap.size < (w.alloc (tO d n x)).heap.size := by simp
  have c0 : w2.cell? ⟨w.heap.size, 0, none⟩ = some (.int .i64 d) := (b2.cell (p := ⟨w.heap.size, 0, none⟩) (Nat.lt_of_lt_of_le lt0 b1.size)).trans ((b1.cell (p := ⟨w.heap.size, 0, none⟩) lt0).trans K0.out)
  have c1 : w2.cell? ⟨w.heap.size, 1, none⟩ = some (.int .i64 n) := (b2.cell (p := ⟨w.heap.size, 1, none⟩) (Nat.lt_of_lt_of_le lt0 b1.size)).trans ((b1.cell (p := ⟨w.heap.size, 1, none⟩) lt0).trans K1.out)
  have c2 : w2.cell? ⟨w.heap.size, 2, none⟩ = some (.int .u8 x.toNat) := (b2.cell (p := ⟨w.heap.size, 2, none⟩) (Nat.lt_of_lt_of_le lt0 b1.size)).trans ((b1.cell (p := ⟨w.heap.size, 2, none⟩) lt0).trans K2.out)
  have lt2 : w.heap.size < w2.heap.size := World.block_lt_of_cell? w2 _ c0
  clear b1 b2 b01 b0 lt0
  go_wp2
  have ck := Lib.hid (by have h := fun w => check_any d n x w; rw [HC.out] at h; exact h)
  have rck := Lib.hid (by have h := fun w => rcheck_any d n x w; rw [HC.out] at h; exact h)
  have bs := b02.size
  have n1 := World.new_ne w2 _ c0
  clear CU T1 T2 K0 K1 K2 HC
  go_region_held3 (fun w' => (w'.cell? ⟨w.heap.size, 0, none⟩ = some (.int .i64 d) ∧ w'.cell? ⟨w.heap.size, 1, none⟩ = some (.int .i64 n) ∧ w'.cell? ⟨w.heap.size, 2, none⟩ = some (.int .u8 x.toNat))) (with_reducible repeat' first | assumption | apply And.intro | apply keepA | apply keepD | refine keepB (by assumption) ?_)
    (first | (go_at_call 23; refine (ck.out _).mono ?_; rintro e w' ⟨rfl, rfl⟩) | (go_at_call 18; refine (rck.out _).mono ?_; rintro e w' ⟨rfl, rfl⟩) | (go_at_call 14; refine (awake_any _).mono ?_; rintro e w2 ⟨rfl, bel2⟩))
  go_wp2
  go_ret
  refine ⟨rfl, Below.trans ?_ (bel2.mono (by simp [World.drew]; omega))⟩
  repeat first | exact b02 | refine Below.drew ?_ | refine Below.alloc ?_ (by first | exact bs | (simp; omega)) _
end Go.Proofs.Ytebmnfffmpiceaa
