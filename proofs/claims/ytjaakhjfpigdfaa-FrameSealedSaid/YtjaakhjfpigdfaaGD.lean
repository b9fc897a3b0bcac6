import Derived.Test.YtjaakhjfpigdfaaGC
/-! Frames: the reference's reader. -/
namespace Go.Proofs.Ytjaakhjfpigdfaa
open Go.RowKit
set_option linter.unusedVariables false
set_option linter.unusedSimpArgs false
/-- The reference's reader in block g: what is left; none: the bytes are no frame's. -/
def RRd (W0 w : World) (g : Nat) (s : Option By) : Prop := Below W0.heap.size W0 w ∧ W0.heap.size ≤ g ∧ ∃ sv l, w.heap[g]? = some (.cells #[sv, .bool s.isNone] 141 (0, 0)) ∧ EqN W0 l sv ∧ (∀ l', s = some l' → l' = l)
def takeT (s : Option By) (n : Nat) : By := match s.bind (tk n) with
  | some r => r.1
  | none => List.replicate 8 0
def takeS (s : Option By) (n : Nat) : Option By := (s.bind (tk n)).map (·.2)
theorem RRd.set {W0 w : World} {g : Nat} {s : Option By} (h : RRd W0 w g s) : RRd W0 (w.setCell ⟨g, 1, none⟩ (.bool true)) g none := by
  obtain ⟨hb, hg0, sv, l, hg, hl, _⟩ := h
  refine ⟨hb.trans (((Bes.refl g w).setCell 1 _).to_below hg0 hb.size), hg0, sv, l, ?_, hl, fun _ h => by cases h⟩
  rw [setCell_eq_setRow w g 1 _ 141 (0, 0) _ hg]
  exact setRow_heap w g _ _ 141 _ hg
theorem zero8_eqn (w : World) : EqN (w.alloc (.cells #[.int .u8 0, .int .u8 0, .int .u8 0, .int .u8 0, .int .u8 0, .int .u8 0, .int .u8 0, .int .u8 0] 5)) (List.replicate 8 0) (.slice (some ⟨w.heap.size, 0, none⟩) 8 8) :=
  EqN.new w (List.replicate 8 0) _ 5 (0, 0) _ rfl 8 8 rfl (Nat.le_refl _) (by decide) (by kernel_rfl)
theorem made8 : madeCells #[.int .u8 0] 8 = #[.int .u8 0, .int .u8 0, .int .u8 0, .int .u8 0, .int .u8 0, .int .u8 0, .int .u8 0, .int .u8 0] := by kernel_rfl
theorem make8 (w : World) : (Instr.makeSlice 35 (.int .i64 8) (.int .i64 8)).run Try.prog w = .ok (.slice (some ⟨w.heap.size, 0, none⟩) 8 8) (w.alloc (.cells #[.int .u8 0, .int .u8 0, .int .u8 0, .int .u8 0, .int .u8 0, .int .u8 0, .int .u8 0, .int .u8 0] 5)) := by
  have h := run_make_row' (P := Try.prog) 35 5 (.int .u8 0) 1 Try.underlying35 info5 rfl .i64 .i64 8 (by omega) (by omega) w
  rw [made8] at h
  exact h
set_option maxRecDepth 100000 in
set_option maxHeartbeats 4000000 in
theorem rtake_any (W0 : World) (g : Nat) (s : Option By) (n : Nat) (w : World) (h : RRd W0 w g s) (hn : n < 9223372036854775808) : Calls Try.prog 112 #[.pointer (some ⟨g, 0, none⟩), .int .i64 (n : Int)] w fun e w' =>
    ∃ u, e = .returned u ∧ EqN w' (takeT s n) u ∧ RRd W0 w' g (takeS s n) ∧ Bes g w w' := by
  have h0 := h
  obtain ⟨hb, hg0, sv, l, hg, hl, hs⟩ := h
  obtain ⟨A, c, rfl, hc, hr, hnil⟩ := hl
  have hlm := hr.1
  have hq : w.cell? ⟨g, 0, none⟩ = some (.slice A l.length c) := by rw [Joins.cell_of_block hg]; rfl
  have hq1 : w.cell? ⟨g, 1, none⟩ = some (.bool s.isNone) := by rw [Joins.cell_of_block hg]; rfl
  have hf := fr_of hg 0
  have hf1 := fr_of hg 1
  have hbad : s.bind (tk n) = none → ∀ (w' : World), w' = (w.setCell ⟨g, 1, none⟩ (.bool true)).alloc (.cells #[.int .u8 0, .int .u8 0, .int .u8 0, .int .u8 0, .int .u8 0, .int .u8 0, .int .u8 0, .int .u8 0] 5) → EqN w' (takeT s n) (.slice (some ⟨w.heap.size, 0, none⟩) 8 8) ∧ RRd W0 w' g (takeS s n) ∧ Bes g w w' := by
    rintro hnone w' rfl
    unfold takeT takeS
    rw [hnone]
    have hz := zero8_eqn (w.setCell ⟨g, 1, none⟩ (.bool true))
    rw [show (w.setCell ⟨g, 1, none⟩ (.bool true)).heap.size = w.heap.size by simp [World.setCell]] at hz
    refine ⟨hz, ?_, ((Bes.refl g w).setCell 1 _).below (below_alloc1 _ _)⟩
    obtain ⟨r1, r2, sv', l', r3, r4, r5⟩ := h0.set
    exact ⟨r1.alloc r1.size _, r2, sv', l', keepH (below_alloc1 _ _) r3, r4, r5⟩
  have HBAD := Lib.hid hbad
  have HG := Lib.hid hg
  have HB := Lib.hid hb
  have HG0 := Lib.hid hg0
  cases s with
  | none =>
    have hq2 : w.cell? ⟨g, 1, none⟩ = some (.bool true) := hq1
    clear hq1 h0 hbad hg hb hg0 hr hnil hs
    have hmk := make8
    go_enter Try.func112, Try.ntmps112
    go_wp2
    go_ret
    exact ⟨_, rfl, HBAD.out rfl _ rfl⟩
  | some l0 =>
    obtain rfl : l0 = l := hs l0 rfl
    have hq2 : w.cell? ⟨g, 1, none⟩ = some (.bool false) := hq1
    by_cases hle : n ≤ l0.length
    · have hE : EqN W0 l0 (.slice A l0.length c) := ⟨A, c, rfl, hc, hr, hnil⟩
      have e1 : EqN W0 (l0.take n) (.slice A n c) := ⟨A, c, by rw [List.length_take]; congr 1; omega, by rw [List.length_take]; omega, hr.take n, hnil⟩
      have e2 := hE.cut n (l0.length - n) (by omega)
      rw [List.take_of_length_le (by rw [List.length_drop]; omega)] at e2
      have s1 := fun w => run_take A l0.length c n (by omega) w
      have s2 := fun w => run_from A l0.length c n hle hc w
      obtain ⟨A2, hA2⟩ : ∃ A2, (if c = n then A else A.map fun x => x.add n) = A2 := ⟨_, rfl⟩
      rw [hA2] at e2 s2
      have ht : takeT (some l0) n = l0.take n ∧ takeS (some l0) n = some (l0.drop n) := by unfold takeT takeS; rw [Option.bind_some]; unfold tk; rw [if_pos hle]; exact ⟨rfl, rfl⟩
      obtain ⟨L, hL⟩ : ∃ L, l0.length = L := ⟨_, rfl⟩
      rw [hL] at e2 s1 s2 hq hle hc hlm
      rw [hL] at HG
      have i1 : (n : Int) ≤ (L : Int) := by omega
      have i2 : (L : Int) ≤ (c : Int) := by omega
      have HT := Lib.hid ht
      have E1 := Lib.hid e1
      have E2 := Lib.hid e2
      clear hq1 h0 hbad hg hb hg0 hr hnil hs HBAD ht e1 e2 hE hL hA2
      go_enter Try.func112, Try.ntmps112
      go_wp2
      go_ret
      refine ⟨_, rfl, ?_, ?_, (Bes.refl g w).setCell 0 _⟩
      · rw [HT.out.1]
        exact E1.out.below (HB.out.trans (((Bes.refl g w).setCell 0 _).to_below HG0.out HB.out.size))
      · rw [HT.out.2]
        refine ⟨HB.out.trans (((Bes.refl g w).setCell 0 _).to_below HG0.out HB.out.size), HG0.out, _, _, ?_, E2.out, fun l' h => (Option.some.inj h).symm⟩
        rw [setCell_eq_setRow w g 0 _ 141 (0, 0) _ HG.out]
        exact setRow_heap w g _ _ 141 _ HG.out
    · have hno : (some l0).bind (tk n) = none := by rw [Option.bind_some]; unfold tk; rw [if_neg hle]
      have HNO := Lib.hid hno
      obtain ⟨L, hL⟩ : ∃ L, l0.length = L := ⟨_, rfl⟩
      rw [hL] at hq hle hc hlm
      clear hq1 h0 hbad hg hb hg0 hr hnil hs hno hL
      have hmk := make8
      go_enter Try.func112, Try.ntmps112
      go_wp2
      go_ret
      exact ⟨_, rfl, HBAD.out HNO.out _ rfl⟩
end Go.Proofs.Ytjaakhjfpigdfaa
/-! Frames: the reference's reader: numbers. -/
namespace Go.Proofs.Ytjaakhjfpigdfaa
open Go.RowKit
set_option linter.unusedVariables false
set_option linter.unusedSimpArgs false
def varO (s : Option By) (most : Nat) : Option (Nat × By) := s.bind fun l => (vr l).bind fun r => if r.1 ≤ most then some r else none
def varX (s : Option By) (most : Nat) : Nat := ((varO s most).map (·.1)).getD 0
def varS (s : Option By) (most : Nat) : Option By := (varO s most).map (·.2)
theorem varO_no {s : Option By} {most : Nat} (h : varO s most = none) : varX s most = 0 ∧ varS s most = none := by unfold varX varS; rw [h]; exact ⟨rfl, rfl⟩
theorem varO_yes {s : Option By} {most : Nat} {r : Nat × By} (h : varO s most = some r) : varX s most = r.1 ∧ varS s most = some r.2 := by unfold varX varS; rw [h]; exact ⟨rfl, rfl⟩
set_option maxRecDepth 100000 in
set_option maxHeartbeats 4000000 in
theorem rvar_any (W0 : World) (g : Nat) (s : Option By) (most : Nat) (w : World) (h : RRd W0 w g s) (hm : most ≤ 1073741824) : Calls Try.prog 113 #[.pointer (some ⟨g, 0, none⟩), .int .u64 (most : Int)] w fun e w' =>
    e = .returned (.int .i64 (varX s most : Int)) ∧ RRd W0 w' g (varS s most) ∧ Bes g w w' := by
  have h0 := h
  obtain ⟨hb, hg0, sv, l, hg, hl, hs⟩ := h
  have hlw := hl.below hb
  obtain ⟨A, c, rfl, hc, hr, hnil⟩ := hlw
  have hlm := hr.1
  have hq : w.cell? ⟨g, 0, none⟩ = some (.slice A l.length c) := by rw [Joins.cell_of_block hg]; rfl
  have hq1 : w.cell? ⟨g, 1, none⟩ = some (.bool s.isNone) := by rw [Joins.cell_of_block hg]; rfl
  have hf1 := fr_of hg 1
  have RD := rread_any l A l.length c w rfl hr hc
  unfold readV at RD
  obtain ⟨⟨r1, r2, r3⟩, hR⟩ : ∃ r, vread l 0 0 = r := ⟨_, rfl⟩
  rw [hR] at RD
  simp only at RD
  have hbad : varO s most = none → ∀ w', w' = w.setCell ⟨g, 1, none⟩ (.bool true) → (Value.int .i64 (varX s most : Int)) = .int .i64 0 ∧ RRd W0 w' g (varS s most) ∧ Bes g w w' := by
    rintro hno w' rfl
    obtain ⟨e1, e2⟩ := varO_no hno
    rw [e1, e2]
    exact ⟨rfl, h0.set, (Bes.refl g w).setCell 1 _⟩
  have HBAD := Lib.hid hbad
  obtain ⟨VX, hVX⟩ : ∃ v, Value.int .i64 (varX s most : Int) = v := ⟨_, rfl⟩
  rw [hVX] at HBAD ⊢
  have HVX := Lib.hid hVX
  have HRD := Lib.hid RD
  have H0 := Lib.hid h0
  obtain ⟨L, hL⟩ : ∃ L, l.length = L := ⟨_, rfl⟩
  rw [hL] at hq hlm HRD
  cases s with
  | none =>
    have hq2 : w.cell? ⟨g, 1, none⟩ = some (.bool true) := hq1
    have HNO := Lib.hid (show varO none most = none from rfl)
    clear hq1 h0 hbad hb hg0 hg hl hs hc hr hnil RD hR hL hVX
    go_enter Try.func113, Try.ntmps113
    go_wp2_with fail
    refine HRD.out.mono ?_
    rintro e w2 ⟨rfl, rfl⟩
    clear HRD
    go_wp2
    go_ret
    obtain ⟨e1, e2, e3⟩ := HBAD.out HNO.out _ rfl
    exact ⟨by rw [e1]; rfl, e2, e3⟩
  | some l0 =>
    obtain rfl : l0 = l := hs l0 rfl
    have hq2 : w.cell? ⟨g, 1, none⟩ = some (.bool false) := hq1
    by_cases h3 : r3 = 0
    · subst h3
      obtain ⟨o1, o2, o3, o4⟩ := one_law l0 r1 r2 hR
      have hv : vr l0 = some (r1, l0.drop r2) := by unfold vr; rw [hR]; rfl
      by_cases hmost : r1 ≤ most
      · have hvo : varO (some l0) most = some (r1, l0.drop r2) := by unfold varO; rw [Option.bind_some, hv, Option.bind_some, if_pos hmost]
        have hts : takeS (some l0) r2 = some (l0.drop r2) := by unfold takeS; rw [Option.bind_some]; unfold tk; rw [if_pos o2]; rfl
        have TK := Lib.hid (rtake_any W0 g (some l0) r2 w h0 (by omega))
        rw [hts] at TK
        have HV := Lib.hid (varO_yes hvo)
        have hmi : ¬ ((most : Int) < (r1 : Int)) := by omega
        have hr1 : (r1 : Int) ≤ 1073741824 := by omega
        rw [hL] at o2
        clear hq1 h0 hbad hb hg0 hg hl hs hc hr hnil RD hR hL o4 hv hvo hts hVX HBAD H0
        go_enter Try.func113, Try.ntmps113
        go_wp2_with fail
        refine HRD.out.mono ?_
        rintro e w2 ⟨rfl, rfl⟩
        clear HRD
        go_wp2_with fail
        refine TK.out.mono ?_
        rintro e w2 ⟨u, rfl, hu, hrd, hbes⟩
        have HRD := Lib.hid hrd
        have HBS := Lib.hid hbes
        clear hu hrd hbes TK
        go_wp2
        go_ret
        refine ⟨?_, by rw [HV.out.2]; exact HRD.out, HBS.out⟩
        rw [← HVX.out, HV.out.1]
        rfl
      · have HNO := Lib.hid (show varO (some l0) most = none by unfold varO; rw [Option.bind_some, hv, Option.bind_some, if_neg hmost])
        have hmi : (most : Int) < (r1 : Int) := by omega
        clear hq1 h0 hbad hb hg0 hg hl hs hc hr hnil RD hR hL o4 hv hVX hmost
        go_enter Try.func113, Try.ntmps113
        go_wp2_with fail
        refine HRD.out.mono ?_
        rintro e w2 ⟨rfl, rfl⟩
        clear HRD
        go_wp2
        go_ret
        obtain ⟨e1, e2, e3⟩ := HBAD.out HNO.out _ rfl
        exact ⟨by rw [e1]; rfl, e2, e3⟩
    · have HNO := Lib.hid (show varO (some l0) most = none by
        unfold varO vr
        rw [Option.bind_some, hR]
        simp only
        rw [if_neg h3]
        rfl)
      have hne : ((r3 : Int) != 0) = true := by simp; omega
      clear hq1 h0 hbad hb hg0 hg hl hs hc hr hnil RD hR hL hVX h3
      go_enter Try.func113, Try.ntmps113
      go_wp2_with fail
      refine HRD.out.mono ?_
      rintro e w2 ⟨rfl, rfl⟩
      clear HRD
      go_wp2
      go_ret
      obtain ⟨e1, e2, e3⟩ := HBAD.out HNO.out _ rfl
      exact ⟨by rw [e1]; rfl, e2, e3⟩
def bigX (s : Option By) : BitVec 64 := BitVec.ofNat 64 (numOf (takeT s 8) 8 1)
def bigN (T : By) : Nat → Nat
  | 0 => 0
  | i + 1 => bigN T i * 256 + (T.getD i 0).toNat
theorem takeT_len (s : Option By) : (takeT s 8).length = 8 := by
  unfold takeT
  split
  · rename_i r h
    obtain ⟨l, _, h2⟩ := Option.bind_eq_some_iff.1 h
    unfold tk at h2
    split at h2
    · obtain rfl := Option.some.inj h2
      simp only [List.length_take]
      omega
    · cases h2
  · simp
theorem bigN_lt (T : By) : ∀ i, bigN T i < 256 ^ i
  | 0 => by simp [bigN]
  | i + 1 => by
    have h := bigN_lt T i
    have h2 := (T.getD i 0).isLt
    unfold bigN
    rw [Nat.pow_succ]
    omega
theorem bigN_num (T : By) : bigN T 8 = numOf T 8 1 := by
  simp only [bigN, numOf, assemble, which]
  simp
  omega
set_option maxRecDepth 100000 in
theorem or256 (X B : Nat) (hX : X * 256 + B < 18446744073709551616) (hB : B < 256) : bits .or .u64 ((X * 256 : Nat) : Int) (B : Int) = ((X * 256 + B : Nat) : Int) := by
  rw [u64_or_nat _ _ (by omega) (by omega)]
  have := Nat.shiftLeft_add_eq_or_of_lt (i := 8) (b := B) (by omega) X
  rw [Nat.shiftLeft_eq] at this
  rw [show X * 256 = X * 2 ^ 8 by omega, ← this]
set_option maxRecDepth 100000 in
set_option maxHeartbeats 4000000 in
theorem rbig_any (W0 : World) (g : Nat) (s : Option By) (w : World) (h : RRd W0 w g s) : Calls Try.prog 114 #[.pointer (some ⟨g, 0, none⟩)] w fun e w' =>
    e = .returned (.int .u64 ((bigX s).toNat : Int)) ∧ RRd W0 w' g (takeS s 8) ∧ Bes g w w' := by
  have TK := Lib.hid (rtake_any W0 g s 8 w h (by decide))
  have hT := takeT_len s
  have hX : (bigX s).toNat = bigN (takeT s 8) 8 := by
    have h1 := numOf_lt64 (takeT s 8) 8 1 (by omega)
    unfold bigX
    rw [BitVec.toNat_ofNat, bigN_num, Nat.mod_eq_of_lt (by omega)]
  rw [hX]
  obtain ⟨T, hT2⟩ : ∃ T, takeT s 8 = T := ⟨_, rfl⟩
  rw [hT2] at TK hT ⊢
  obtain ⟨V, hV⟩ : ∃ v, bigN T 8 = v := ⟨_, rfl⟩
  rw [hV]
  have HV := Lib.hid hV
  have HT := Lib.hid hT
  clear h hX hT2 hT hV
  go_enter Try.func114, Try.ntmps114
  go_wp2_with fail
  refine TK.out.mono ?_
  rintro e w2 ⟨u, rfl, hu, hrd, hbes⟩
  obtain ⟨A, c, rfl, hc, hr, _⟩ := hu
  rw [HT.out] at hc ⊢
  have HR := Lib.hid hr
  have HRD := Lib.hid hrd
  have HBS := Lib.hid hbes
  clear TK hr hrd hbes
  go_wp2
  go_loop [4, 5] (fun v i => ∃ k : Nat, k ≤ 8 ∧ i = .int .i64 k ∧ v = .int .u64 (bigN T k : Nat)) (fun _ i => 8 - (intOf i).toNat)
  case atStart => exact ⟨0, Nat.zero_le _, rfl, rfl⟩
  case round =>
    obtain ⟨k, hk, rfl, rfl⟩ := hrel
    by_cases hlt : k < 8
    · obtain ⟨ad, rfl, hcell⟩ := HR.out.at' k (by rw [HT.out]; exact hlt)
      have hte : T[k]'(by rw [HT.out]; exact hlt) = T.getD k 0 := by rw [List.getD_eq_getElem?_getD, List.getElem?_eq_getElem (by rw [HT.out]; exact hlt)]; rfl
      rw [hte] at hcell
      have h1 := bigN_lt T (k + 1)
      have h2 : bigN T (k + 1) = bigN T k * 256 + (T.getD k 0).toNat := rfl
      have hp : 256 ^ (k + 1) ≤ 256 ^ 8 := Nat.pow_le_pow_right (by decide) (by omega)
      have hp8 : (256 : Nat) ^ 8 = 18446744073709551616 := by decide
      have hb8 := (T.getD k 0).isLt
      rw [h2] at h1
      have hor := or256 (bigN T k) (T.getD k 0).toNat (by omega) (by omega)
      rw [← h2] at hor
      have HN := Lib.hid h2
      obtain ⟨N, hN⟩ : ∃ N, bigN T (k + 1) = N := ⟨_, rfl⟩
      obtain ⟨X, hX⟩ : ∃ X, bigN T k = X := ⟨_, rfl⟩
      obtain ⟨B, hB⟩ : ∃ B, (T.getD k 0).toNat = B := ⟨_, rfl⟩
      rw [hX, hB] at h1 hor
      rw [hN] at hor
      rw [hB] at hcell hb8
      rw [hX]
      have hsh : IntKind.u64.wrap ((X : Int) * 256) = ((X * 256 : Nat) : Int) := by rw [IntKind.wrap_u64]; omega
      have hsh2 : IntKind.u64.wrap ((X : Int) * 2 ^ 8) = ((X * 256 : Nat) : Int) := by rw [show (2 : Int) ^ 8 = 256 by decide]; exact hsh
      have HNN := Lib.hid hN
      obtain ⟨S, hS⟩ : ∃ S, X * 256 = S := ⟨_, rfl⟩
      rw [hS] at hor hsh hsh2
      clear hte h1 h2 hp hp8 hN hX hB hS
      go_wp2
      go_round
      case rel => exact ⟨k + 1, by omega, by go_num, by rw [HNN.out]⟩
      case measure => simp [intOf]; omega
    · obtain rfl : k = 8 := by omega
      rw [HV.out]
      go_wp2
      go_ret
      exact ⟨rfl, HRD.out, HBS.out⟩
end Go.Proofs.Ytjaakhjfpigdfaa
/-! Frames: how the reference reads; plain laws. -/
namespace Go.Proofs.Ytjaakhjfpigdfaa
open Go.RowKit
set_option linter.unusedVariables false
set_option linter.unusedSimpArgs false
theorem takeT_app (a t : By) (n : Nat) (h : a.length = n) : takeT (some (a ++ t)) n = a ∧ takeS (some (a ++ t)) n = some t := by
  unfold takeT takeS
  rw [Option.bind_some, tk_app a t n h]
  exact ⟨rfl, rfl⟩
theorem varX_app (x most : Nat) (hx : x ≤ most) (hm : most ≤ 1073741824) (t : By) : varX (some (vlist 10 x ++ t)) most = x ∧ varS (some (vlist 10 x ++ t)) most = some t := by
  refine varO_yes (r := (x, t)) ?_
  unfold varO
  rw [Option.bind_some, vr_app x (by omega) t, Option.bind_some, if_pos hx]
theorem bigX_app (x : BitVec 64) (t : By) : bigX (some (wordBytes x 8 1 ++ t)) = x ∧ takeS (some (wordBytes x 8 1 ++ t)) 8 = some t := by
  obtain ⟨h1, h2⟩ := takeT_app (wordBytes x 8 1) t 8 (length_wordBytes x 8 1)
  refine ⟨?_, h2⟩
  unfold bigX
  rw [h1]
  exact numOf_bytes x
def c1 (b : By) : Option By := takeS (some b) 2
def c2 (b : By) : Option By := varS (c1 b) 1073741824
def c3 (b : By) : Option By := takeS (c2 b) 8
def c4 (b : By) : Option By := takeS (c3 b) 8
def c5 (b : By) : Option By := varS (c4 b) 1073741824
def c6 (b : By) : Option By := varS (c5 b) 1073741824
def c7 (b : By) : Option By := takeS (c6 b) 8
def c8 (b : By) : Option By := varS (c7 b) 524288
def c9 (b : By) : Nat := varX (c7 b) 524288
/-- The frame that the reference has read. -/
def frR (b : By) : Fr := ⟨(((takeT (some b) 2).getD 1 0).toNat : Int), (varX (c1 b) 1073741824 : Int), bigX (c2 b), bigX (c3 b), (varX (c4 b) 1073741824 : Int), (c8 b).getD [], (varX (c5 b) 1073741824 : Int), bigX (c6 b)⟩
theorem read_body (f : Fr) (h : okF f = true) : (takeT (some (bodyF f)) 2).getD 0 0 = 70#8 ∧ c8 (bodyF f) = some f.body ∧ c9 (bodyF f) = f.body.length ∧ frR (bodyF f) = f := by
  obtain ⟨h1, h2, h3, h4, h5, h6, h7⟩ := (okF_iff f).1 h
  have hb : bodyF f = [70#8, BitVec.ofInt 8 f.fr] ++ (vlist 10 f.ep.toNat ++ (wordBytes f.me 8 1 ++ (wordBytes f.you 8 1 ++ (vlist 10 f.n.toNat ++ (vlist 10 f.all.toNat ++ (wordBytes f.more 8 1 ++ (vlist 10 f.body.length ++ f.body))))))) := rfl
  obtain ⟨a1, a2⟩ := takeT_app [70#8, BitVec.ofInt 8 f.fr] (vlist 10 f.ep.toNat ++ (wordBytes f.me 8 1 ++ (wordBytes f.you 8 1 ++ (vlist 10 f.n.toNat ++ (vlist 10 f.all.toNat ++ (wordBytes f.more 8 1 ++ (vlist 10 f.body.length ++ f.body))))))) 2 rfl
  rw [← hb] at a1 a2
  have e1 : c1 (bodyF f) = _ := a2
  have b2 := varX_app f.ep.toNat 1073741824 (by omega) (by omega) (wordBytes f.me 8 1 ++ (wordBytes f.you 8 1 ++ (vlist 10 f.n.toNat ++ (vlist 10 f.all.toNat ++ (wordBytes f.more 8 1 ++ (vlist 10 f.body.length ++ f.body))))))
  rw [← e1] at b2
  have e2 : c2 (bodyF f) = _ := b2.2
  have b3 := bigX_app f.me (wordBytes f.you 8 1 ++ (vlist 10 f.n.toNat ++ (vlist 10 f.all.toNat ++ (wordBytes f.more 8 1 ++ (vlist 10 f.body.length ++ f.body)))))
  rw [← e2] at b3
  have e3 : c3 (bodyF f) = _ := b3.2
  have b4 := bigX_app f.you (vlist 10 f.n.toNat ++ (vlist 10 f.all.toNat ++ (wordBytes f.more 8 1 ++ (vlist 10 f.body.length ++ f.body))))
  rw [← e3] at b4
  have e4 : c4 (bodyF f) = _ := b4.2
  have b5 := varX_app f.n.toNat 1073741824 (by omega) (by omega) (vlist 10 f.all.toNat ++ (wordBytes f.more 8 1 ++ (vlist 10 f.body.length ++ f.body)))
  rw [← e4] at b5
  have e5 : c5 (bodyF f) = _ := b5.2
  have b6 := varX_app f.all.toNat 1073741824 (by omega) (by omega) (wordBytes f.more 8 1 ++ (vlist 10 f.body.length ++ f.body))
  rw [← e5] at b6
  have e6 : c6 (bodyF f) = _ := b6.2
  have b7 := bigX_app f.more (vlist 10 f.body.length ++ f.body)
  rw [← e6] at b7
  have e7 : c7 (bodyF f) = _ := b7.2
  have b8 := varX_app f.body.length 524288 h6 (by omega) f.body
  rw [← e7] at b8
  have e8 : c8 (bodyF f) = _ := b8.2
  refine ⟨by rw [a1]; rfl, e8, b8.1, ?_⟩
  unfold frR
  rw [a1, b2.1, b3.1, b4.1, b5.1, b6.1, b7.1, e8]
  obtain ⟨fr, ep, me, you, n, body, all, more⟩ := f
  simp only at h1 h2 h4 h5
  have g1 : ((([70#8, BitVec.ofInt 8 fr] : By).getD 1 0).toNat : Int) = fr := by rcases h1 with rfl | rfl <;> rfl
  have g2 : (ep.toNat : Int) = ep := by omega
  have g4 : (n.toNat : Int) = n := by omega
  have g5 : (all.toNat : Int) = all := by omega
  simp only [g1, g2, g4, g5, Option.getD_some]
theorem read_head (b : By) (h : ¬ (takeT (some b) 2).getD 0 0 = 70#8) : parseF b = none := by
  cases hp : parseF b with
  | none => rfl
  | some f => obtain ⟨h1, rfl⟩ := parse_some b f hp; exact absurd (read_body f h1).1 h
theorem read_bad (b : By) (h : c8 b = none) : parseF b = none := by
  cases hp : parseF b with
  | none => rfl
  | some f => obtain ⟨h1, rfl⟩ := parse_some b f hp; rw [(read_body f h1).2.1] at h; cases h
theorem read_len (b l : By) (h : c8 b = some l) (hl : ¬ c9 b = l.length) : parseF b = none := by
  cases hp : parseF b with
  | none => rfl
  | some f =>
    obtain ⟨h1, rfl⟩ := parse_some b f hp
    obtain ⟨_, h2, h3, _⟩ := read_body f h1
    rw [h2] at h
    obtain rfl := Option.some.inj h
    exact absurd h3 hl
theorem read_no (b : By) (h : ¬ (okF (frR b) = true ∧ bodyF (frR b) = b)) : parseF b = none := by
  cases hp : parseF b with
  | none => rfl
  | some f =>
    obtain ⟨h1, rfl⟩ := parse_some b f hp
    rw [(read_body f h1).2.2.2] at h
    exact absurd ⟨h1, rfl⟩ h
theorem read_yes (b : By) (h : okF (frR b) = true ∧ bodyF (frR b) = b) : parseF b = some (frR b) := by
  have := parse_body (frR b) h.1
  rwa [h.2] at this
end Go.Proofs.Ytjaakhjfpigdfaa
/-! Frames: the reference's read. -/
namespace Go.Proofs.Ytjaakhjfpigdfaa
open Go.RowKit
set_option linter.unusedVariables false
set_option linter.unusedSimpArgs false
structure QS (w wi : World) (g2 g4 g6 : Nat) (XC : Array Value) (s : Option By) : Prop where
  rd : RRd w wi g4 s
  h2 : wi.heap[g2]? = some (.cells zeroC 83 (0, 0))
  h6 : wi.heap[g6]? = some (.cells XC 83 (0, 0))
  n2 : w.heap.size ≤ g2
  n24 : g2 < g4
  n46 : g4 < g6
theorem QS.bes {w wi w' : World} {g2 g4 g6 : Nat} {XC : Array Value} {s s' : Option By} (h : QS w wi g2 g4 g6 XC s) (hr : RRd w w' g4 s') (hb : Bes g4 wi w') : QS w w' g2 g4 g6 XC s' := by
  have a1 := h.n24; have a2 := h.n46
  exact ⟨hr, (hb.block g2 (Array.getElem?_eq_some_iff.1 h.h2).1 (by omega)).trans h.h2, (hb.block g6 (Array.getElem?_eq_some_iff.1 h.h6).1 (by omega)).trans h.h6, h.n2, h.n24, h.n46⟩
theorem RRd.keep {w wi w' : World} {g4 : Nat} {s : Option By} (h : RRd w wi g4 s) (hb : Below w.heap.size wi w') (hg : w'.heap[g4]? = wi.heap[g4]?) : RRd w w' g4 s := by
  obtain ⟨r1, r2, sv, l, r3, r4, r5⟩ := h
  exact ⟨r1.trans hb, r2, sv, l, hg.trans r3, r4, r5⟩
theorem QS.low {w wi w' : World} {g2 g4 g6 : Nat} {XC : Array Value} {s : Option By} (h : QS w wi g2 g4 g6 XC s) (hb : Below wi.heap.size wi w') : QS w w' g2 g4 g6 XC s := by
  obtain ⟨r1, r2, sv, l, r3, r4, r5⟩ := h.rd
  exact ⟨⟨r1.trans (hb.mono r1.size), r2, sv, l, keepH hb r3, r4, r5⟩, keepH hb h.h2, keepH hb h.h6, h.n2, h.n24, h.n46⟩
theorem QS.store {w wi : World} {g2 g4 g6 : Nat} {XC : Array Value} {s : Option By} (h : QS w wi g2 g4 g6 XC s) (k : Nat) (v : Value) : QS w (wi.setCell ⟨g6, k, none⟩ v) g2 g4 g6 (XC.setIfInBounds k v) s := by
  have a1 := h.n24; have a2 := h.n46; have a0 := h.n2
  have hb := (Bes.refl g6 wi).setCell k v
  obtain ⟨r1, r2, sv, l, r3, r4, r5⟩ := h.rd
  refine ⟨⟨r1.trans (hb.to_below (by omega) r1.size), r2, sv, l, (hb.block g4 (Array.getElem?_eq_some_iff.1 r3).1 (by omega)).trans r3, r4, r5⟩, (hb.block g2 (Array.getElem?_eq_some_iff.1 h.h2).1 (by omega)).trans h.h2, ?_, h.n2, h.n24, h.n46⟩
  rw [setCell_eq_setRow wi g6 k _ 83 (0, 0) _ h.h6]
  exact setRow_heap wi g6 _ _ 83 _ h.h6
theorem QS.cell {w wi : World} {g2 g4 g6 : Nat} {XC : Array Value} {s : Option By} (h : QS w wi g2 g4 g6 XC s) (k : Nat) (v : Value) (hk : XC[k]? = some v) : wi.cell? ⟨g6, k, none⟩ = some v := by rw [Joins.cell_of_block h.h6]; exact hk
theorem QS.fr {w wi : World} {g2 g4 g6 : Nat} {XC : Array Value} {s : Option By} (h : QS w wi g2 g4 g6 XC s) (k : Nat) : wi.frozen? ⟨g6, k, none⟩ = false := fr_of h.h6 k
theorem takeT_two (s : Option By) : 2 ≤ (takeT s 2).length := by
  unfold takeT
  split
  · rename_i r h
    obtain ⟨l, _, h2⟩ := Option.bind_eq_some_iff.1 h
    unfold tk at h2
    split at h2
    · obtain rfl := Option.some.inj h2
      simp only [List.length_take]
      omega
    · cases h2
  · simp
theorem varX_le (s : Option By) (most : Nat) : varX s most ≤ most := by
  unfold varX
  cases h : varO s most with
  | none => simp
  | some r =>
    unfold varO at h
    obtain ⟨l, _, h2⟩ := Option.bind_eq_some_iff.1 h
    obtain ⟨q, _, h3⟩ := Option.bind_eq_some_iff.1 h2
    split at h3
    · obtain rfl := Option.some.inj h3
      simpa using ‹_›
    · cases h3
set_option maxRecDepth 100000 in
theorem read_out (g2 : Nat) (XC : Array Value) (bb : Bool) (w' : World) (tm : Array Value) (ht : tm[2]?.getD undef = .pointer (some ⟨g2, 0, none⟩)) (ht3 : tm[3]?.getD undef = .bool bb) (h1 : w'.heap[g2]? = some (.cells XC 83 (0, 0))) (hx : (Try.prog.info? 83).map (·.size) = some XC.size) :
    (results Try.f97 tm).run Try.prog w' = .ok (.tuple #[.agg XC, .bool bb]) w' := by
  have e1 := run_loadVar_row (P := Try.prog) w' g2 83 83 XC (0, 0) _ h1 Try.underlying83 rfl hx
  simp [results, Try.results97, asAddr, ht, ht3, e1]
/-- What the reference's read hands back. -/
def RR (b : By) (w : World) (e : Ending) (w' : World) : Prop :=
  (∃ f u, parseF b = some f ∧ e = .returned (.tuple #[frV f u, .bool true]) ∧ EqN w' f.body u ∧ Below w.heap.size w w') ∨ (parseF b = none ∧ ∃ X : Array Value, X.size = 8 ∧ X.all (·.oneCell') = true ∧ e = .returned (.tuple #[.agg X, .bool false]) ∧ Below w.heap.size w w')
def invH (W : World) (g2 : Nat) (w : World) : Prop := Bes g2 W w ∧ ∃ C : Array Value, w.heap[g2]? = some (.cells C 83 (0, 0)) ∧ C.size = 8
theorem invH_step {W w w' : World} {g2 : Nat} (h : invH W g2 w) (hb : Below w.heap.size w w') : invH W g2 w' := by
  obtain ⟨h1, C, h2, h3⟩ := h
  exact ⟨h1.below hb, C, keepH hb h2, h3⟩
def pdRY (bv : Value) (b F : By) (FC : Array Value) (qs : Bool) (g2 NB : Nat) : Nat → Value → World → Prop
  | 0 => fun v w => v = .agg FC
  | 1 => fun v w => v = .agg FC
  | 2 => fun v w => v = .int .i64 0
  | 3 => fun v w => v = .bool true
  | 4 => fun v w => v = .bool true
  | 5 => fun v w => v = .agg FC
  | 6 => fun v w => OwnB w NB v F
  | 7 => fun v w => v = .string (strV F)
  | 8 => fun v w => v = bv
  | 9 => fun v w => v = .string (strV b)
  | 10 => fun v w => v = .bool qs
  | 11 => fun v w => v = .bool qs
  | 12 => fun v w => w.heap[g2]? = some (.cells FC 83 (0, 0))
  | _ => fun _ _ => True
theorem pdRY_mono (bv : Value) (b F : By) (FC : Array Value) (qs : Bool) (g2 NB : Nat) : ∀ q0 v w w', pdRY bv b F FC qs g2 NB q0 v w → Below w.heap.size w w' → pdRY bv b F FC qs g2 NB q0 v w'
  | 0, _, _, _, h, _ => h
  | 1, _, _, _, h, _ => h
  | 2, _, _, _, h, _ => h
  | 3, _, _, _, h, _ => h
  | 4, _, _, _, h, _ => h
  | 5, _, _, _, h, _ => h
  | 6, _, _, _, h, hb => OwnB.below h hb
  | 7, _, _, _, h, _ => h
  | 8, _, _, _, h, _ => h
  | 9, _, _, _, h, _ => h
  | 10, _, _, _, h, _ => h
  | 11, _, _, _, h, _ => h
  | 12, _, _, _, h, hb => keepH hb h
  | _ + 13, _, _, _, _, _ => trivial
theorem pdRY_bes (bv : Value) (b F : By) (FC : Array Value) (qs : Bool) (g2 NB : Nat) : ∀ q0 v w w', q0 ≠ 12 → pdRY bv b F FC qs g2 NB q0 v w → Bes g2 w w' → g2 < NB → pdRY bv b F FC qs g2 NB q0 v w'
  | 0, _, _, _, _, h, hb, hg => h
  | 1, _, _, _, _, h, hb, hg => h
  | 2, _, _, _, _, h, hb, hg => h
  | 3, _, _, _, _, h, hb, hg => h
  | 4, _, _, _, _, h, hb, hg => h
  | 5, _, _, _, _, h, hb, hg => h
  | 6, _, _, _, _, h, hb, hg => OwnB.bes h hg hb
  | 7, _, _, _, _, h, hb, hg => h
  | 8, _, _, _, _, h, hb, hg => h
  | 9, _, _, _, _, h, hb, hg => h
  | 10, _, _, _, _, h, hb, hg => h
  | 11, _, _, _, _, h, hb, hg => h
  | 12, _, _, _, hk, _, _, _ => absurd rfl hk
  | _ + 13, _, _, _, _, _, _, _ => trivial
def pdRN (bv : Value) (b F : By) (FC : Array Value) (qs : Bool) (g2 NB : Nat) : Nat → Value → World → Prop
  | 0 => fun v w => v = .agg FC
  | 1 => fun v w => v = .agg FC
  | 2 => fun v w => v = .int .i64 180
  | 3 => fun v w => v = .bool false
  | 4 => fun v w => v = .bool false
  | 5 => fun v w => v = undef
  | 6 => fun v w => v = undef
  | 7 => fun v w => v = undef
  | 8 => fun v w => v = undef
  | 9 => fun v w => v = undef
  | 10 => fun v w => v = undef
  | 11 => fun v w => v = .bool false
  | 12 => fun v w => w.heap[g2]? = some (.cells FC 83 (0, 0))
  | _ => fun _ _ => True
theorem pdRN_mono (bv : Value) (b F : By) (FC : Array Value) (qs : Bool) (g2 NB : Nat) : ∀ q0 v w w', pdRN bv b F FC qs g2 NB q0 v w → Below w.heap.size w w' → pdRN bv b F FC qs g2 NB q0 v w'
  | 0, _, _, _, h, _ => h
  | 1, _, _, _, h, _ => h
  | 2, _, _, _, h, _ => h
  | 3, _, _, _, h, _ => h
  | 4, _, _, _, h, _ => h
  | 5, _, _, _, h, _ => h
  | 6, _, _, _, h, _ => h
  | 7, _, _, _, h, _ => h
  | 8, _, _, _, h, _ => h
  | 9, _, _, _, h, _ => h
  | 10, _, _, _, h, _ => h
  | 11, _, _, _, h, _ => h
  | 12, _, _, _, h, hb => keepH hb h
  | _ + 13, _, _, _, _, _ => trivial
theorem pdRN_bes (bv : Value) (b F : By) (FC : Array Value) (qs : Bool) (g2 NB : Nat) : ∀ q0 v w w', q0 ≠ 12 → pdRN bv b F FC qs g2 NB q0 v w → Bes g2 w w' → g2 < NB → pdRN bv b F FC qs g2 NB q0 v w'
  | 0, _, _, _, _, h, hb, hg => h
  | 1, _, _, _, _, h, hb, hg => h
  | 2, _, _, _, _, h, hb, hg => h
  | 3, _, _, _, _, h, hb, hg => h
  | 4, _, _, _, _, h, hb, hg => h
  | 5, _, _, _, _, h, hb, hg => h
  | 6, _, _, _, _, h, hb, hg => h
  | 7, _, _, _, _, h, hb, hg => h
  | 8, _, _, _, _, h, hb, hg => h
  | 9, _, _, _, _, h, hb, hg => h
  | 10, _, _, _, _, h, hb, hg => h
  | 11, _, _, _, _, h, hb, hg => h
  | 12, _, _, _, hk, _, _, _ => absurd rfl hk
  | _ + 13, _, _, _, _, _, _, _ => trivial
set_option maxRecDepth 100000 in
set_option maxHeartbeats 8000000 in
theorem fread_any (b : By) (bv : Value) (w : World) (hb : EqN w b bv) (hbl : b.length ≤ 1000000) : Calls Try.prog 97 #[bv] w (RR b w) := by
  have hz : zeroC = #[.int .i64 0, .int .i64 0, .int .u64 0, .int .u64 0, .int .i64 0, .slice none 0 0, .int .i64 0, .int .u64 0] := rfl
  have HZC := Lib.hid hz
  have HSZ := Lib.hid (show (Try.prog.info? 83).map (·.size) = some zeroC.size by kernel_rfl)
  have HBV0 := Lib.hid hb
  have HBL := Lib.hid hbl
  obtain ⟨A, n, c, hbv⟩ := hb.form
  subst hbv
  have a2 := keepH (below_alloc1 _ (.cells #[.slice A n c, .bool false] 141)) (heap_new w (.cells zeroC 83) w.heap.size rfl)
  have a4 := heap_new (w.alloc (.cells zeroC 83)) (.cells #[.slice A n c, .bool false] 141) (w.heap.size + 1) (size_alloc _ _).symm
  have b2 : Below w.heap.size w ((w.alloc (.cells zeroC 83)).alloc (.cells #[.slice A n c, .bool false] 141)) := ((Below.refl _ _).alloc (Nat.le_refl _) _).alloc (by rw [size_alloc]; omega) _
  obtain ⟨W2, hW2⟩ : ∃ W, (w.alloc (.cells zeroC 83)).alloc (.cells #[.slice A n c, .bool false] 141) = W := ⟨_, rfl⟩
  rw [hW2] at a2 a4 b2
  have HW2 := Lib.hid hW2
  have hrd : RRd w W2 (w.heap.size + 1) (some b) := ⟨b2, by omega, _, b, a4, HBV0.out, fun l' h => (Option.some.inj h).symm⟩
  obtain ⟨g2, hg2⟩ : ∃ g, w.heap.size = g := ⟨_, rfl⟩
  rw [hg2] at a2 hrd
  obtain ⟨g4, hg4⟩ : ∃ g, g2 + 1 = g := ⟨_, rfl⟩
  rw [hg4] at hrd
  have HG := Lib.hid (And.intro hg2 hg4)
  have A2 := Lib.hid a2
  have HRD := Lib.hid hrd
  have N2 := Lib.hid (show w.heap.size ≤ g2 by omega)
  have N24 := Lib.hid (show g2 < g4 by omega)
  clear hz hb hbl a2 a4 b2 hW2 hrd hg2 hg4
  go_enter Try.func97, Try.ntmps97
  go_upto_region 2 with (fail)
  rw [← HZC.out, HW2.out, HG.out.1, HG.out.2]
  clear HW2 HG
  go_wp2_with fail
  refine (rtake_any w g4 (some b) 2 W2 HRD.out (by decide)).mono ?_
  rintro e w3 ⟨u5, rfl, hu, hrd, hbes⟩
  have hlen := takeT_two (some b)
  obtain ⟨T0, hT0⟩ : ∃ T, takeT (some b) 2 = T := ⟨_, rfl⟩
  have HT0 := Lib.hid hT0
  rw [hT0] at hu hlen
  obtain ⟨A5, ct5, rfl, hc5, hr5, _⟩ := hu
  obtain ⟨ad, rfl, hcell0⟩ := hr5.at' 0 (by omega)
  obtain ⟨ad2, e2, hcell1⟩ := hr5.at' 1 (by omega)
  obtain rfl := Option.some.inj e2
  have t0 : T0[0]'(by omega) = T0.getD 0 0 := by rw [List.getD_eq_getElem?_getD, List.getElem?_eq_getElem (by omega)]; rfl
  have t1 : T0[1]'(by omega) = T0.getD 1 0 := by rw [List.getD_eq_getElem?_getD, List.getElem?_eq_getElem (by omega)]; rfl
  rw [t0] at hcell0
  rw [t1] at hcell1
  obtain ⟨x0, hx0⟩ : ∃ x, T0.getD 0 0 = x := ⟨_, rfl⟩
  obtain ⟨x1, hx1⟩ : ∃ x, T0.getD 1 0 = x := ⟨_, rfl⟩
  rw [hx0] at hcell0
  rw [hx1] at hcell1
  have hcell2 : w3.cell? ⟨ad.block, ad.off + 1, none⟩ = some (.int .u8 (x1.toNat : Int)) := by simpa [Addr.add] using hcell1
  have HY0 := Lib.hid hx0
  have HY1 := Lib.hid hx1
  obtain ⟨nT, hnT⟩ : ∃ n, T0.length = n := ⟨_, rfl⟩
  rw [hnT] at hlen hc5 ⊢
  have i1 : (1 : Int) < (nT : Int) := by omega
  have i2 : (0 : Int) < (nT : Int) := by omega
  have i3 : nT ≤ 9223372036854775807 := by rw [← hnT]; exact hr5.1
  have x18 := x1.isLt
  have h2w3 := (hbes.block g2 (Array.getElem?_eq_some_iff.1 A2.out).1 (by have := N24.out; omega)).trans A2.out
  have hq3 : QS w (w3.alloc (.cells #[.int .i64 (x1.toNat : Int), .int .i64 0, .int .u64 0, .int .u64 0, .int .i64 0, .slice none 0 0, .int .i64 0, .int .u64 0] 83)) g2 g4 w3.heap.size #[.int .i64 (x1.toNat : Int), .int .i64 0, .int .u64 0, .int .u64 0, .int .i64 0, .slice none 0 0, .int .i64 0, .int .u64 0] (c1 b) := by
    have hrd' : RRd w w3 g4 (c1 b) := hrd
    obtain ⟨r1, r2, sv, l, r3, r4, r5⟩ := hrd'
    exact ⟨⟨r1.alloc r1.size _, r2, sv, l, keepH (below_alloc1 _ _) r3, r4, r5⟩, keepH (below_alloc1 _ _) h2w3, heap_new _ _ _ rfl, N2.out, N24.out, (Array.getElem?_eq_some_iff.1 r3).1⟩
  have hcl : (w3.alloc (.cells #[.int .i64 (x1.toNat : Int), .int .i64 0, .int .u64 0, .int .u64 0, .int .i64 0, .slice none 0 0, .int .i64 0, .int .u64 0] 83)).cell? ad = some (.int .u8 (x0.toNat : Int)) := by
    have h := ((below_alloc1 w3 (.cells #[.int .i64 (x1.toNat : Int), .int .i64 0, .int .u64 0, .int .u64 0, .int .i64 0, .slice none 0 0, .int .i64 0, .int .u64 0] 83)).cell (World.block_lt_of_cell? _ _ hcell0)).trans hcell0
    rwa [show ad.add 0 = ad by unfold Addr.add; split <;> simp_all] at h
  have HQ3 := Lib.hid hq3
  have HCL := Lib.hid hcl
  clear hT0 hr5 t0 t1 hx0 hx1 hnT h2w3 hq3 hcl hrd hbes hlen HRD A2 hcell0
  go_upto_region 4 with (fail)
  obtain ⟨W4, hW4⟩ : ∃ W, w3.alloc (.cells #[.int .i64 (x1.toNat : Int), .int .i64 0, .int .u64 0, .int .u64 0, .int .i64 0, .slice none 0 0, .int .i64 0, .int .u64 0] 83) = W := ⟨_, rfl⟩
  obtain ⟨g6, hg6⟩ : ∃ g, w3.heap.size = g := ⟨_, rfl⟩
  rw [hW4, hg6] at HQ3
  rw [hW4] at HCL
  rw [hW4, hg6]
  have hcl := HCL.out
  clear hW4 hg6 hcell1 hcell2 HCL
  --@a
  by_cases hh : x0 = 70#8
  rotate_left
  · have hP := read_head b (by rw [HT0.out, HY0.out]; exact hh)
    have hne : ((x0.toNat : Int) != 70) = true := by
      simp
      intro e
      have h9 : x0.toNat = 70 := by omega
      exact hh (BitVec.eq_of_toNat_eq (by simpa using h9))
    have HP := Lib.hid hP
    have hs : W4.setRow g2 zeroC = W4 := Go.setRow_self W4 g2 zeroC 83 (0, 0) HQ3.out.h2
    have HS := Lib.hid hs
    clear hP hh hs
    go_wp2_with (first | ((with_reducible show wpList _ _ _ (⟨none, .store 83 (.tmp 2) (.tmp 22), _, _, _, _⟩ :: _) _ _); refine wpList_store_row rfl 83 (.tmp 2) (.tmp 22) rfl g2 zeroC rfl rfl 83 _ HQ3.out.h2 HSZ.out rfl zeroC_one ?_; rw [HS.out]) | fail)
    exact bodyPost_ret (v := .tuple #[.agg zeroC, .bool false]) (read_out g2 zeroC false W4 _ (by rfl) (by rfl) HQ3.out.h2 HSZ.out) rfl (.inr ⟨HP.out, zeroC, rfl, zeroC_one, rfl, HQ3.out.rd.1⟩)
  have hne : ((x0.toNat : Int) != 70) = false := by rw [hh]; rfl
  clear hh
  go_upto_region 6 with (fail)
  clear hne hcl
  have HQ1 := HQ3
  clear HQ3
  obtain ⟨W6, hW6⟩ : ∃ W, W4 = W := ⟨_, rfl⟩
  rw [hW6] at HQ1 ⊢
  clear hW6
  --@b
  have RC := Lib.hid (rvar_any w g4 (c1 b) 1073741824 W6 HQ1.out.rd (by decide))
  obtain ⟨ep, hx⟩ : ∃ q, varX (c1 b) 1073741824 = q := ⟨_, rfl⟩
  rw [hx] at RC
  have HX1 := Lib.hid hx
  clear hx
  go_wp2_with fail
  refine RC.out.mono ?_
  rintro e w7 ⟨rfl, hrd, hbes⟩
  have HR1 := Lib.hid (show QS w w7 g2 g4 g6 #[.int .i64 (x1.toNat : Int), .int .i64 0, .int .u64 0, .int .u64 0, .int .i64 0, .slice none 0 0, .int .i64 0, .int .u64 0] (c2 b) from HQ1.out.bes hrd hbes)
  have hc := HR1.out.cell 1 (.int .i64 0) rfl
  have hf := HR1.out.fr 1
  clear RC hrd hbes HQ1
  go_upto_region 7 with (fail)
  obtain ⟨W7, hW⟩ : ∃ W, w7.setCell ⟨g6, 1, none⟩ (.int .i64 (ep : Int)) = W := ⟨_, rfl⟩
  have HQ2 := Lib.hid (show QS w W7 g2 g4 g6 ((#[.int .i64 (x1.toNat : Int), .int .i64 0, .int .u64 0, .int .u64 0, .int .i64 0, .slice none 0 0, .int .i64 0, .int .u64 0] : Array Value).setIfInBounds 1 (.int .i64 (ep : Int))) (c2 b) by rw [← hW]; exact HR1.out.store 1 _)
  rw [hW]
  clear hW hc hf HR1
  have RC := Lib.hid (rbig_any w g4 (c2 b) W7 HQ2.out.rd)
  obtain ⟨me, hx⟩ : ∃ q, bigX (c2 b) = q := ⟨_, rfl⟩
  rw [hx] at RC
  have HX2 := Lib.hid hx
  clear hx
  go_wp2_with fail
  refine RC.out.mono ?_
  rintro e w8 ⟨rfl, hrd, hbes⟩
  have HR2 := Lib.hid (show QS w w8 g2 g4 g6 ((#[.int .i64 (x1.toNat : Int), .int .i64 0, .int .u64 0, .int .u64 0, .int .i64 0, .slice none 0 0, .int .i64 0, .int .u64 0] : Array Value).setIfInBounds 1 (.int .i64 (ep : Int))) (c3 b) from HQ2.out.bes hrd hbes)
  have hc := HR2.out.cell 2 (.int .u64 0) rfl
  have hf := HR2.out.fr 2
  clear RC hrd hbes HQ2
  go_upto_region 8 with (fail)
  obtain ⟨W8, hW⟩ : ∃ W, w8.setCell ⟨g6, 2, none⟩ (.int .u64 (me.toNat : Int)) = W := ⟨_, rfl⟩
  have HQ3 := Lib.hid (show QS w W8 g2 g4 g6 (((#[.int .i64 (x1.toNat : Int), .int .i64 0, .int .u64 0, .int .u64 0, .int .i64 0, .slice none 0 0, .int .i64 0, .int .u64 0] : Array Value).setIfInBounds 1 (.int .i64 (ep : Int))).setIfInBounds 2 (.int .u64 (me.toNat : Int))) (c3 b) by rw [← hW]; exact HR2.out.store 2 _)
  rw [hW]
  clear hW hc hf HR2
  have RC := Lib.hid (rbig_any w g4 (c3 b) W8 HQ3.out.rd)
  obtain ⟨you, hx⟩ : ∃ q, bigX (c3 b) = q := ⟨_, rfl⟩
  rw [hx] at RC
  have HX3 := Lib.hid hx
  clear hx
  go_wp2_with fail
  refine RC.out.mono ?_
  rintro e w9 ⟨rfl, hrd, hbes⟩
  have HR3 := Lib.hid (show QS w w9 g2 g4 g6 (((#[.int .i64 (x1.toNat : Int), .int .i64 0, .int .u64 0, .int .u64 0, .int .i64 0, .slice none 0 0, .int .i64 0, .int .u64 0] : Array Value).setIfInBounds 1 (.int .i64 (ep : Int))).setIfInBounds 2 (.int .u64 (me.toNat : Int))) (c4 b) from HQ3.out.bes hrd hbes)
  have hc := HR3.out.cell 3 (.int .u64 0) rfl
  have hf := HR3.out.fr 3
  clear RC hrd hbes HQ3
  go_upto_region 9 with (fail)
  obtain ⟨W9, hW⟩ : ∃ W, w9.setCell ⟨g6, 3, none⟩ (.int .u64 (you.toNat : Int)) = W := ⟨_, rfl⟩
  have HQ4 := Lib.hid (show QS w W9 g2 g4 g6 ((((#[.int .i64 (x1.toNat : Int), .int .i64 0, .int .u64 0, .int .u64 0, .int .i64 0, .slice none 0 0, .int .i64 0, .int .u64 0] : Array Value).setIfInBounds 1 (.int .i64 (ep : Int))).setIfInBounds 2 (.int .u64 (me.toNat : Int))).setIfInBounds 3 (.int .u64 (you.toNat : Int))) (c4 b) by rw [← hW]; exact HR3.out.store 3 _)
  rw [hW]
  clear hW hc hf HR3
  have RC := Lib.hid (rvar_any w g4 (c4 b) 1073741824 W9 HQ4.out.rd (by decide))
  obtain ⟨nn, hx⟩ : ∃ q, varX (c4 b) 1073741824 = q := ⟨_, rfl⟩
  rw [hx] at RC
  have HX4 := Lib.hid hx
  clear hx
  go_wp2_with fail
  refine RC.out.mono ?_
  rintro e w10 ⟨rfl, hrd, hbes⟩
  have HR4 := Lib.hid (show QS w w10 g2 g4 g6 ((((#[.int .i64 (x1.toNat : Int), .int .i64 0, .int .u64 0, .int .u64 0, .int .i64 0, .slice none 0 0, .int .i64 0, .int .u64 0] : Array Value).setIfInBounds 1 (.int .i64 (ep : Int))).setIfInBounds 2 (.int .u64 (me.toNat : Int))).setIfInBounds 3 (.int .u64 (you.toNat : Int))) (c5 b) from HQ4.out.bes hrd hbes)
  have hc := HR4.out.cell 4 (.int .i64 0) rfl
  have hf := HR4.out.fr 4
  clear RC hrd hbes HQ4
  go_upto_region 10 with (fail)
  obtain ⟨W10, hW⟩ : ∃ W, w10.setCell ⟨g6, 4, none⟩ (.int .i64 (nn : Int)) = W := ⟨_, rfl⟩
  have HQ5 := Lib.hid (show QS w W10 g2 g4 g6 (((((#[.int .i64 (x1.toNat : Int), .int .i64 0, .int .u64 0, .int .u64 0, .int .i64 0, .slice none 0 0, .int .i64 0, .int .u64 0] : Array Value).setIfInBounds 1 (.int .i64 (ep : Int))).setIfInBounds 2 (.int .u64 (me.toNat : Int))).setIfInBounds 3 (.int .u64 (you.toNat : Int))).setIfInBounds 4 (.int .i64 (nn : Int))) (c5 b) by rw [← hW]; exact HR4.out.store 4 _)
  rw [hW]
  clear hW hc hf HR4
  have RC := Lib.hid (rvar_any w g4 (c5 b) 1073741824 W10 HQ5.out.rd (by decide))
  obtain ⟨al, hx⟩ : ∃ q, varX (c5 b) 1073741824 = q := ⟨_, rfl⟩
  rw [hx] at RC
  have HX5 := Lib.hid hx
  clear hx
  go_wp2_with fail
  refine RC.out.mono ?_
  rintro e w11 ⟨rfl, hrd, hbes⟩
  have HR5 := Lib.hid (show QS w w11 g2 g4 g6 (((((#[.int .i64 (x1.toNat : Int), .int .i64 0, .int .u64 0, .int .u64 0, .int .i64 0, .slice none 0 0, .int .i64 0, .int .u64 0] : Array Value).setIfInBounds 1 (.int .i64 (ep : Int))).setIfInBounds 2 (.int .u64 (me.toNat : Int))).setIfInBounds 3 (.int .u64 (you.toNat : Int))).setIfInBounds 4 (.int .i64 (nn : Int))) (c6 b) from HQ5.out.bes hrd hbes)
  have hc := HR5.out.cell 6 (.int .i64 0) rfl
  have hf := HR5.out.fr 6
  clear RC hrd hbes HQ5
  go_upto_region 11 with (fail)
  obtain ⟨W11, hW⟩ : ∃ W, w11.setCell ⟨g6, 6, none⟩ (.int .i64 (al : Int)) = W := ⟨_, rfl⟩
  have HQ6 := Lib.hid (show QS w W11 g2 g4 g6 ((((((#[.int .i64 (x1.toNat : Int), .int .i64 0, .int .u64 0, .int .u64 0, .int .i64 0, .slice none 0 0, .int .i64 0, .int .u64 0] : Array Value).setIfInBounds 1 (.int .i64 (ep : Int))).setIfInBounds 2 (.int .u64 (me.toNat : Int))).setIfInBounds 3 (.int .u64 (you.toNat : Int))).setIfInBounds 4 (.int .i64 (nn : Int))).setIfInBounds 6 (.int .i64 (al : Int))) (c6 b) by rw [← hW]; exact HR5.out.store 6 _)
  rw [hW]
  clear hW hc hf HR5
  have RC := Lib.hid (rbig_any w g4 (c6 b) W11 HQ6.out.rd)
  obtain ⟨more, hx⟩ : ∃ q, bigX (c6 b) = q := ⟨_, rfl⟩
  rw [hx] at RC
  have HX6 := Lib.hid hx
  clear hx
  go_wp2_with fail
  refine RC.out.mono ?_
  rintro e w12 ⟨rfl, hrd, hbes⟩
  have HR6 := Lib.hid (show QS w w12 g2 g4 g6 ((((((#[.int .i64 (x1.toNat : Int), .int .i64 0, .int .u64 0, .int .u64 0, .int .i64 0, .slice none 0 0, .int .i64 0, .int .u64 0] : Array Value).setIfInBounds 1 (.int .i64 (ep : Int))).setIfInBounds 2 (.int .u64 (me.toNat : Int))).setIfInBounds 3 (.int .u64 (you.toNat : Int))).setIfInBounds 4 (.int .i64 (nn : Int))).setIfInBounds 6 (.int .i64 (al : Int))) (c7 b) from HQ6.out.bes hrd hbes)
  have hc := HR6.out.cell 7 (.int .u64 0) rfl
  have hf := HR6.out.fr 7
  clear RC hrd hbes HQ6
  go_upto_region 12 with (fail)
  obtain ⟨W12, hW⟩ : ∃ W, w12.setCell ⟨g6, 7, none⟩ (.int .u64 (more.toNat : Int)) = W := ⟨_, rfl⟩
  have HQ7 := Lib.hid (show QS w W12 g2 g4 g6 (((((((#[.int .i64 (x1.toNat : Int), .int .i64 0, .int .u64 0, .int .u64 0, .int .i64 0, .slice none 0 0, .int .i64 0, .int .u64 0] : Array Value).setIfInBounds 1 (.int .i64 (ep : Int))).setIfInBounds 2 (.int .u64 (me.toNat : Int))).setIfInBounds 3 (.int .u64 (you.toNat : Int))).setIfInBounds 4 (.int .i64 (nn : Int))).setIfInBounds 6 (.int .i64 (al : Int))).setIfInBounds 7 (.int .u64 (more.toNat : Int))) (c7 b) by rw [← hW]; exact HR6.out.store 7 _)
  rw [hW]
  clear hW hc hf HR6
  --@c
  have RC := Lib.hid (rvar_any w g4 (c7 b) 524288 W12 HQ7.out.rd (by decide))
  obtain ⟨len, hx⟩ : ∃ q, varX (c7 b) 524288 = q := ⟨_, rfl⟩
  rw [hx] at RC
  have HX7 := Lib.hid hx
  clear hx
  go_wp2_with fail
  refine RC.out.mono ?_
  rintro e w13 ⟨rfl, hrd, hbes⟩
  have HQ8 := Lib.hid (show QS w w13 g2 g4 g6 (((((((#[.int .i64 (x1.toNat : Int), .int .i64 0, .int .u64 0, .int .u64 0, .int .i64 0, .slice none 0 0, .int .i64 0, .int .u64 0] : Array Value).setIfInBounds 1 (.int .i64 (ep : Int))).setIfInBounds 2 (.int .u64 (me.toNat : Int))).setIfInBounds 3 (.int .u64 (you.toNat : Int))).setIfInBounds 4 (.int .i64 (nn : Int))).setIfInBounds 6 (.int .i64 (al : Int))).setIfInBounds 7 (.int .u64 (more.toNat : Int))) (c8 b) from HQ7.out.bes hrd hbes)
  clear RC hrd hbes HQ7
  obtain ⟨XC, hXC⟩ : ∃ X : Array Value, (((((((#[.int .i64 (x1.toNat : Int), .int .i64 0, .int .u64 0, .int .u64 0, .int .i64 0, .slice none 0 0, .int .i64 0, .int .u64 0] : Array Value).setIfInBounds 1 (.int .i64 (ep : Int))).setIfInBounds 2 (.int .u64 (me.toNat : Int))).setIfInBounds 3 (.int .u64 (you.toNat : Int))).setIfInBounds 4 (.int .i64 (nn : Int))).setIfInBounds 6 (.int .i64 (al : Int))).setIfInBounds 7 (.int .u64 (more.toNat : Int))) = X := ⟨_, rfl⟩
  have HXC := Lib.hid hXC
  rw [hXC] at HQ8
  clear hXC
  have hs : w13.setRow g2 zeroC = w13 := Go.setRow_self w13 g2 zeroC 83 (0, 0) HQ8.out.h2
  have HS := Lib.hid hs
  clear hs
  obtain ⟨_, _, sv, l, hg, hl, hls⟩ := HQ8.out.rd
  have HL := Lib.hid hl
  obtain ⟨A8, ca8, rfl, hca8, hr8, _⟩ := hl
  have hlm := hr8.1
  have hq0 : w13.cell? ⟨g4, 0, none⟩ = some (.slice A8 l.length ca8) := by rw [Joins.cell_of_block hg]; rfl
  have hq1 : w13.cell? ⟨g4, 1, none⟩ = some (.bool (c8 b).isNone) := by rw [Joins.cell_of_block hg]; rfl
  obtain ⟨L, hL⟩ : ∃ q, l.length = q := ⟨_, rfl⟩
  have HLL := Lib.hid hL
  rw [hL] at hq0 hlm hca8
  clear hg hr8 hL
  --@d
  cases hc8 : c8 b with
  | none =>
    have HP := Lib.hid (read_bad b hc8)
    rw [hc8] at hq1
    have hq2 : w13.cell? ⟨g4, 1, none⟩ = some (.bool true) := hq1
    clear hq1 hc8 hls
    go_wp2_with (first | ((with_reducible show wpList _ _ _ (⟨none, .store 83 (.tmp 2) (.tmp 56), _, _, _, _⟩ :: _) _ _); refine wpList_store_row rfl 83 (.tmp 2) (.tmp 56) rfl g2 zeroC rfl rfl 83 _ HQ8.out.h2 HSZ.out rfl zeroC_one ?_; rw [HS.out]) | fail)
    exact bodyPost_ret (v := .tuple #[.agg zeroC, .bool false]) (read_out g2 zeroC false w13 _ (by rfl) (by rfl) HQ8.out.h2 HSZ.out) rfl (.inr ⟨HP.out, zeroC, rfl, zeroC_one, rfl, HQ8.out.rd.1⟩)
  | some l8 =>
    rw [hc8] at hq1 hls
    obtain rfl : l8 = l := hls l8 rfl
    have hq2 : w13.cell? ⟨g4, 1, none⟩ = some (.bool false) := hq1
    have HC8 := Lib.hid hc8
    clear hq1 hc8 hls
    by_cases hle : len = L
    rotate_left
    · have HP := Lib.hid (read_len b l8 HC8.out (by rw [HLL.out]; unfold c9; rw [HX7.out]; exact hle))
      have hne : ((len : Int) != (L : Int)) = true := by simp; omega
      clear hle
      go_wp2_with (first | ((with_reducible show wpList _ _ _ (⟨none, .store 83 (.tmp 2) (.tmp 56), _, _, _, _⟩ :: _) _ _); refine wpList_store_row rfl 83 (.tmp 2) (.tmp 56) rfl g2 zeroC rfl rfl 83 _ HQ8.out.h2 HSZ.out rfl zeroC_one ?_; rw [HS.out]) | fail)
      exact bodyPost_ret (v := .tuple #[.agg zeroC, .bool false]) (read_out g2 zeroC false w13 _ (by rfl) (by rfl) HQ8.out.h2 HSZ.out) rfl (.inr ⟨HP.out, zeroC, rfl, zeroC_one, rfl, HQ8.out.rd.1⟩)
    · have hne : ((len : Int) != (L : Int)) = false := by simp; omega
      have hlen5 : L ≤ 524288 := by rw [← hle, ← HX7.out]; exact varX_le _ _
      have HL5 := Lib.hid (show l8.length ≤ 524288 by rw [HLL.out]; exact hlen5)
      have HOE := Lib.hid (show OwnB (w13.alloc (.cells #[] 5)) w13.heap.size (.slice (some ⟨w13.heap.size, 0, none⟩) 0 0) [] from own_empty w13 5 1)
      have he := (HL.out.below HQ8.out.rd.1).alloc (.cells #[] 5)
      rw [HLL.out] at he
      have HE := Lib.hid he
      have HG6w := Lib.hid (show g6 < w13.heap.size from (Array.getElem?_eq_some_iff.1 HQ8.out.h6).1)
      have hq0a : (w13.alloc (.cells #[] 5)).cell? ⟨g4, 0, none⟩ = some (.slice A8 L ca8) := ((below_alloc1 w13 (.cells #[] 5)).cell (World.block_lt_of_cell? _ _ hq0)).trans hq0
      have hc := HQ8.out.cell 5 (.slice none 0 0) (by rw [← HXC.out]; rfl)
      have hf := HQ8.out.fr 5
      clear hle he
      --@e
      go_upto_region 16 with (first | (at_builtin; refine wpList_append_B rfl (.tmp 57) (.tmp 61) rfl w13.heap.size [] l8 HOE.out HE.out (by have := HL5.out; simp; omega) (by rw [size_alloc]; omega) ?_; intro v' w14 hown' hb'; have HO14 := Lib.hid hown'; have HB14 := Lib.hid ((below_alloc1 w13 (.cells #[] 5)).trans hb'); have hc' := (HB14.out.cell (World.block_lt_of_cell? _ _ hc)).trans hc; have hf' := (HB14.out.frozen (World.block_lt_of_cell? _ _ hc)).trans hf; obtain ⟨A3, c3, hv3, _, _, _⟩ := HO14.out.eqn; obtain ⟨n3, hn3⟩ : ∃ n, ([] ++ l8 : By).length = n := ⟨_, rfl⟩; rw [hn3] at hv3; subst hv3; have HN3 := Lib.hid hn3; clear hn3 hown' hb' hc hf hq0 hq0a hq2) | fail)
      --@f
      have HQ9 := Lib.hid ((HQ8.out.low HB14.out).store 5 (.slice A3 n3 c3))
      have HO9 := Lib.hid (show OwnB (w14.setCell ⟨g6, 5, none⟩ (.slice A3 n3 c3)) w13.heap.size (.slice A3 n3 c3) l8 from HO14.out.bes HG6w.out ((Bes.refl g6 w14).setCell 5 _))
      obtain ⟨W15, hW15⟩ : ∃ W, w14.setCell ⟨g6, 5, none⟩ (.slice A3 n3 c3) = W := ⟨_, rfl⟩
      rw [hW15] at HQ9 HO9 ⊢
      have hfr : frR b = ⟨(x1.toNat : Int), (ep : Int), me, you, (nn : Int), l8, (al : Int), more⟩ := by
        unfold frR
        rw [HT0.out, HY1.out, HX1.out, HX2.out, HX3.out, HX4.out, HX5.out, HX6.out, HC8.out]
        rfl
      have hfv : frV (frR b) (.slice A3 n3 c3) = .agg (XC.setIfInBounds 5 (.slice A3 n3 c3)) := by rw [hfr, ← HXC.out]; kernel_rfl
      obtain ⟨FC, hFC⟩ : ∃ F, XC.setIfInBounds 5 (.slice A3 n3 c3) = F := ⟨_, rfl⟩
      have hF1 : FC.all (·.oneCell') = true := by rw [← hFC, ← HXC.out]; kernel_rfl
      have hFs : FC.size = 8 := by rw [← hFC, ← HXC.out]; kernel_rfl
      rw [hFC] at hfv HQ9
      have hbd : (frR b).body = l8 := by rw [hfr]
      have hE9 : EqN W15 (frR b).body (.slice A3 n3 c3) := by rw [hbd]; exact HO9.out.eqn
      have hCK : ∀ w', Calls Try.prog 64 #[.agg FC] w' fun e w'' => e = .returned (.int .i64 (if okF (frR b) = true then 0 else 180)) ∧ Below w'.heap.size w' w'' := fun w' => by
        rw [← hfv]
        obtain ⟨Aq, cq, eq, hcq, _, _⟩ := hE9
        have h := rfcheck_any (frR b) Aq cq w' hcq
        rw [← eq] at h
        exact h
      have hg26 : g2 < w13.heap.size := by have := HG6w.out; have := HQ9.out.n24; have := HQ9.out.n46; omega
      have HCB := Lib.hid (show okF (frR b) = true → ∀ w', Bes g2 W15 w' → Calls Try.prog 93 #[.agg FC] w' fun e w'' => ∃ v, e = .returned v ∧ OwnB w'' w'.heap.size v (bodyF (frR b)) ∧ Below w'.heap.size w' w'' from fun hok w' hb => by
        rw [← hfv]; exact rbody_any (frR b) _ w' (by rw [hbd]; exact (HO9.out.bes hg26 hb).eqn) hok)
      have hHBV := HBV0.out
      obtain ⟨bv, hbv⟩ : ∃ v, Value.slice A n c = v := ⟨_, rfl⟩
      rw [hbv] at hHBV ⊢
      have HBV := Lib.hid hHBV
      have HFV := Lib.hid hfv
      have HF1 := Lib.hid hF1
      have HFS := Lib.hid hFs
      have HS83 := Lib.hid (show (Try.prog.info? 83).map (·.size) = some FC.size by rw [hFs]; kernel_rfl)
      have HBD := Lib.hid hbd
      have HG6 := Lib.hid HQ9.out.h6
      have HZ2 := Lib.hid HQ9.out.h2
      have HN2 := Lib.hid HQ9.out.n2
      have HB9 := Lib.hid HQ9.out.rd.1
      have HG26 := Lib.hid (show g2 < w13.heap.size by have := HG6w.out; have := HQ9.out.n24; have := HQ9.out.n46; omega)
      have HG46 := Lib.hid (show g2 < g6 by have := HQ9.out.n24; have := HQ9.out.n46; omega)
      have HGN := Lib.hid (show g2 < W15.heap.size by have := (Array.getElem?_eq_some_iff.1 HQ9.out.h2).1; omega)
      have HFF := Lib.hid (show zeroC.size = FC.size by rw [hFs]; rfl)
      clear hW15 hfr hfv hFC hF1 hFs hbd hg26 hE9 hHBV hbv HQ8 HQ9 HO14 HB14 HOE HE HL HXC hc' hf' hlm hca8 hne hlen5
      by_cases hok : okF (frR b) = true
      · rw [if_pos hok] at hCK
        have HCK := Lib.hid hCK
        have hCB := HCB.out hok
        have hyes := read_yes b
        have hno := read_no b
        obtain ⟨F, hF⟩ : ∃ F, bodyF (frR b) = F := ⟨_, rfl⟩
        rw [hF] at hCB hyes hno
        have HCB := Lib.hid hCB
        have e3 : ((strV F).toList == (strV b).toList) = (F == b) := strV_list F b
        obtain ⟨qs, hqs⟩ : ∃ q, (F == b) = q := ⟨_, rfl⟩
        rw [hqs] at e3
        have HQS := Lib.hid e3
        have HQB := Lib.hid hqs
        have HOK := Lib.hid hok
        have HYES := Lib.hid hyes
        have HNO := Lib.hid hno
        clear hCK hCB hyes hno hF e3 hqs hok
        refine wp_region_came (w0 := _) 13 [some 64, some 65, some 66, some 67, some 68, some 69, some 70, some 71, some 72, some 73, some 74, some 75, none] (by kernel_rfl) (by kernel_rfl) (by kernel_rfl) (by kernel_rfl) (of_decide_eq_true (by kernel_rfl)) (by kernel_rfl) (fun _ w' => invH W15 g2 w') (⟨(Bes.refl g2 W15).drew, zeroC, HZ2.out, rfl⟩) (pdRY bv b F FC qs g2 W15.heap.size) (fun _ _ => false) (by kernel_rfl) ?_ ?_
        · intro ix hix o w1 b9 Lc ho hL hneed hbel hv hstood hsize K hK0
          have hK : ∀ u w', pdRY bv b F FC qs g2 W15.heap.size ix u w' → Below w1.heap.size w1 w' → K (b9.put o.dst u) w' := fun u w' h hb => hK0 u w' h (fun k v _ _ _ h2 => pdRY_mono bv b F FC qs g2 W15.heap.size k v _ _ h2 hb) (invH_step hbel hb)
          have hc : ix = 0 ∨ ix = 1 ∨ ix = 2 ∨ ix = 3 ∨ ix = 4 ∨ ix = 5 ∨ ix = 6 ∨ ix = 7 ∨ ix = 8 ∨ ix = 9 ∨ ix = 10 ∨ ix = 11 ∨ ix = 12 := by omega
          rcases hc with rfl | rfl | rfl | rfl | rfl | rfl | rfl | rfl | rfl | rfl | rfl | rfl | rfl
          · obtain rfl : (⟨some 64, .load 83 (Operand.tmp 6), _, _, _, _⟩ : Oper) = o := Option.some.inj ho
            refine ask_plain rfl ?_
            have e1 : b9.eval (.tmp 6) = .pointer (some ⟨g6, 0, none⟩) := (hstood 6 (by kernel_rfl)).trans rfl
            exact wp_load_cells 83 (.tmp 6) rfl ⟨g6, 0, none⟩ e1 FC _ rfl (fun j v hj => by rw [add_zero_off, Joins.cell_of_block ((hbel.1.block g6 (Array.getElem?_eq_some_iff.1 HG6.out).1 (by have := HG46.out; omega)).trans HG6.out)]; exact hj) Try.underlying83 HS83.out (hK _ _ rfl (Below.refl _ _))
          · obtain rfl : (⟨some 65, .load 83 (Operand.tmp 6), _, _, _, _⟩ : Oper) = o := Option.some.inj ho
            refine ask_plain rfl ?_
            have e1 : b9.eval (.tmp 6) = .pointer (some ⟨g6, 0, none⟩) := (hstood 6 (by kernel_rfl)).trans rfl
            exact wp_load_cells 83 (.tmp 6) rfl ⟨g6, 0, none⟩ e1 FC _ rfl (fun j v hj => by rw [add_zero_off, Joins.cell_of_block ((hbel.1.block g6 (Array.getElem?_eq_some_iff.1 HG6.out).1 (by have := HG46.out; omega)).trans HG6.out)]; exact hj) Try.underlying83 HS83.out (hK _ _ rfl (Below.refl _ _))
          · obtain rfl : (⟨some 66, .call { callee := (Callee.value (Operand.func 64)), args := #[(Operand.tmp 65)], argTypes := #[83] }, _, _, _, _⟩ : Oper) = o := Option.some.inj ho
            refine ask_plain rfl ?_
            have e1 : b9.eval (.tmp 65) = .agg FC := hv 1 65 (by kernel_rfl) (by kernel_rfl) (of_decide_eq_true (by kernel_rfl))
            refine wp_call_fn 64 #[.tmp 65] #[83] rfl Try.f64 _ Try.func64 (by kernel_rfl) rfl #[.agg FC] (by simp [e1]) ((HCK.out w1).mono ?_)
            rintro e w2 ⟨rfl, hb2⟩
            exact ⟨_, rfl, hK _ _ rfl hb2⟩
          · obtain rfl : (⟨some 67, .binOp BinOp.eql 44 (Operand.tmp 66) (Operand.const (Value.int IntKind.i64 0)) 44, _, _, _, _⟩ : Oper) = o := Option.some.inj ho
            refine ask_plain rfl ?_
            have e0 : b9.eval (.tmp 66) = .int .i64 0 := hv 2 66 (by kernel_rfl) (by kernel_rfl) (of_decide_eq_true (by kernel_rfl))
            exact wp_val (.bool true) (by simp only [execOp, e0]; simp [go_sem]) (hK _ _ rfl (Below.refl _ _))
          · obtain rfl : (⟨some 68, .move (Operand.tmp 67), _, _, _, _⟩ : Oper) = o := Option.some.inj ho
            refine ask_plain rfl ?_
            have e : b9.eval (.tmp 67) = .bool true := hv 3 67 (by kernel_rfl) (by kernel_rfl) (of_decide_eq_true (by kernel_rfl))
            exact wp_val _ rfl (hK _ _ e (Below.refl _ _))
          · obtain rfl : (⟨some 69, .load 83 (Operand.tmp 6), _, _, _, _⟩ : Oper) = o := Option.some.inj ho
            have hgd := hv 4 68 (by kernel_rfl) (by kernel_rfl) (of_decide_eq_true (by kernel_rfl))
            refine ask_yes 4 68 true rfl (by kernel_rfl) (by rw [hsize]; exact (of_decide_eq_true (by kernel_rfl))) hgd ?_
            have e1 : b9.eval (.tmp 6) = .pointer (some ⟨g6, 0, none⟩) := (hstood 6 (by kernel_rfl)).trans rfl
            exact wp_load_cells 83 (.tmp 6) rfl ⟨g6, 0, none⟩ e1 FC _ rfl (fun j v hj => by rw [add_zero_off, Joins.cell_of_block ((hbel.1.block g6 (Array.getElem?_eq_some_iff.1 HG6.out).1 (by have := HG46.out; omega)).trans HG6.out)]; exact hj) Try.underlying83 HS83.out (hK _ _ rfl (Below.refl _ _))
          · obtain rfl : (⟨some 70, .call { callee := (Callee.value (Operand.func 93)), args := #[(Operand.tmp 69)], argTypes := #[83] }, _, _, _, _⟩ : Oper) = o := Option.some.inj ho
            have hgd := hv 4 68 (by kernel_rfl) (by kernel_rfl) (of_decide_eq_true (by kernel_rfl))
            refine ask_yes 4 68 true rfl (by kernel_rfl) (by rw [hsize]; exact (of_decide_eq_true (by kernel_rfl))) hgd ?_
            have e1 : b9.eval (.tmp 69) = .agg FC := hv 5 69 (by kernel_rfl) (by kernel_rfl) (of_decide_eq_true (by kernel_rfl))
            refine wp_call_fn 93 #[.tmp 69] #[83] rfl Try.f93 _ Try.func93 (by kernel_rfl) rfl #[.agg FC] (by simp [e1]) ((HCB.out w1 hbel.1).mono ?_)
            rintro e w2 ⟨v2, rfl, hown2, hb2⟩
            exact ⟨_, rfl, hK _ _ (own_weak hbel.1.size hown2) hb2⟩
          · obtain rfl : (⟨some 71, .convert 35 9 (Operand.tmp 70), _, _, _, _⟩ : Oper) = o := Option.some.inj ho
            have hgd := hv 4 68 (by kernel_rfl) (by kernel_rfl) (of_decide_eq_true (by kernel_rfl))
            refine ask_yes 4 68 true rfl (by kernel_rfl) (by rw [hsize]; exact (of_decide_eq_true (by kernel_rfl))) hgd ?_
            have e1 : OwnB w1 W15.heap.size (b9.eval (.tmp 70)) F := hv 6 70 (by kernel_rfl) (by kernel_rfl) (of_decide_eq_true (by kernel_rfl))
            have e2 := conv_EqN e1.eqn
            exact wp_val (.string (strV F)) (by simp only [execOp, Sem.run_bind, e2, Result.andThen]; rfl) (hK _ _ rfl (Below.refl _ _))
          · obtain rfl : (⟨some 72, .move (Operand.tmp 0), _, _, _, _⟩ : Oper) = o := Option.some.inj ho
            have hgd := hv 4 68 (by kernel_rfl) (by kernel_rfl) (of_decide_eq_true (by kernel_rfl))
            refine ask_yes 4 68 true rfl (by kernel_rfl) (by rw [hsize]; exact (of_decide_eq_true (by kernel_rfl))) hgd ?_
            have e : b9.eval (.tmp 0) = bv := (hstood 0 (by kernel_rfl)).trans rfl
            exact wp_val _ rfl (hK _ _ e (Below.refl _ _))
          · obtain rfl : (⟨some 73, .convert 35 9 (Operand.tmp 72), _, _, _, _⟩ : Oper) = o := Option.some.inj ho
            have hgd := hv 4 68 (by kernel_rfl) (by kernel_rfl) (of_decide_eq_true (by kernel_rfl))
            refine ask_yes 4 68 true rfl (by kernel_rfl) (by rw [hsize]; exact (of_decide_eq_true (by kernel_rfl))) hgd ?_
            have e1 : b9.eval (.tmp 72) = bv := hv 8 72 (by kernel_rfl) (by kernel_rfl) (of_decide_eq_true (by kernel_rfl))
            have e2 := conv_EqN (HBV.out.below (HB9.out.trans (hbel.1.to_below HN2.out HB9.out.size)))
            exact wp_val (.string (strV b)) (by simp only [execOp, Sem.run_bind, e1, e2, Result.andThen]; rfl) (hK _ _ rfl (Below.refl _ _))
          · obtain rfl : (⟨some 74, .binOp BinOp.eql 9 (Operand.tmp 71) (Operand.tmp 73) 9, _, _, _, _⟩ : Oper) = o := Option.some.inj ho
            have hgd := hv 4 68 (by kernel_rfl) (by kernel_rfl) (of_decide_eq_true (by kernel_rfl))
            refine ask_yes 4 68 true rfl (by kernel_rfl) (by rw [hsize]; exact (of_decide_eq_true (by kernel_rfl))) hgd ?_
            have e0 : b9.eval (.tmp 71) = .string (strV F) := hv 7 71 (by kernel_rfl) (by kernel_rfl) (of_decide_eq_true (by kernel_rfl))
            have e1 : b9.eval (.tmp 73) = .string (strV b) := hv 9 73 (by kernel_rfl) (by kernel_rfl) (of_decide_eq_true (by kernel_rfl))
            exact wp_val (.bool qs) (by simp only [execOp, e0, e1]; simp [go_sem, HQS.out]) (hK _ _ rfl (Below.refl _ _))
          · obtain rfl : (⟨some 75, .pick (Operand.tmp 68) (Operand.tmp 74) (Operand.const (Value.bool false)), _, _, _, _⟩ : Oper) = o := Option.some.inj ho
            refine ask_plain rfl ?_
            have e0 : b9.eval (.tmp 68) = .bool true := hv 4 68 (by kernel_rfl) (by kernel_rfl) (of_decide_eq_true (by kernel_rfl))
            have e1 : b9.eval (.tmp 74) = .bool qs := hv 10 74 (by kernel_rfl) (by kernel_rfl) (of_decide_eq_true (by kernel_rfl))
            exact wp_val (.bool qs) (by simp only [execOp, e0, e1]; rfl) (hK _ _ rfl (Below.refl _ _))
          · obtain rfl : (⟨none, .store 83 (Operand.tmp 2) (Operand.tmp 64), _, _, _, _⟩ : Oper) = o := Option.some.inj ho
            refine ask_plain rfl ?_
            have e1 : b9.eval (.tmp 64) = .agg FC := hv 0 64 (by kernel_rfl) (by kernel_rfl) (of_decide_eq_true (by kernel_rfl))
            have e2 : b9.eval (.tmp 2) = .pointer (some ⟨g2, 0, none⟩) := (hstood 2 (by kernel_rfl)).trans rfl
            obtain ⟨hbe, C, hC, hCs⟩ := hbel
            refine wp_store_row 83 (.tmp 2) (.tmp 64) rfl g2 FC e2 e1 83 C hC HS83.out (by rw [hCs, HFS.out]) HF1.out ?_
            have hC2 := setRow_heap w1 g2 _ FC 83 _ hC
            exact hK0 _ _ hC2 (fun k v hk _ _ h => pdRY_bes bv b F FC qs g2 W15.heap.size k v w1 _ hk h ((Bes.refl g2 w1).setRow FC) HGN.out) ⟨hbe.setRow FC, FC, hC2, HFS.out⟩
        · rintro vs w16 hp ⟨_, hb16⟩
          have v0 : vs 0 = .agg FC := hp 0 (by decide) (fun _ _ => rfl)
          have v11 : vs 11 = .bool qs := hp 11 (by decide) (fun _ _ => rfl)
          change wpList _ _ _ [_] _ _
          simp only [putD, Act.put, List.setIfInBounds_toArray, List.set_cons_zero, List.set_cons_succ, v0, v11]
          generalize vs 1 = y1, vs 2 = y2, vs 3 = y3, vs 4 = y4, vs 5 = y5, vs 6 = y6, vs 7 = y7, vs 8 = y8, vs 9 = y9, vs 10 = y10
          have z16 : w16.heap[g2]? = some (.cells FC 83 (0, 0)) := hp 12 (by decide) (fun _ _ => rfl)
          have Z16 := Lib.hid z16
          have B16 := Lib.hid (HB9.out.trans (hb16.1.to_below HN2.out HB9.out.size))
          have O16 := Lib.hid (HO9.out.bes HG26.out hb16.1)
          clear hp hb16 v0 v11 z16
          go_wp2_with fail
          refine bodyPost_ret (v := .tuple #[.agg FC, .bool qs]) (read_out g2 FC qs _ _ (by rfl) (by rfl) Z16.out HS83.out) rfl ?_
          cases qs with
          | true =>
            have hFb : F = b := by simpa using HQB.out
            refine .inl ⟨frR b, .slice A3 n3 c3, HYES.out ⟨HOK.out, hFb⟩, by rw [HFV.out], ?_, B16.out⟩
            rw [HBD.out]
            exact O16.out.eqn
          | false =>
            have hFb : ¬ F = b := by simpa using HQB.out
            exact .inr ⟨HNO.out (fun h => hFb h.2), FC, HFS.out, HF1.out, rfl, B16.out⟩
      · rw [if_neg hok] at hCK
        have HCK := Lib.hid hCK
        have HNO := Lib.hid (read_no b (fun h => hok h.1))
        clear hCK hok HCB
        refine wp_region_came (w0 := _) 13 [some 64, some 65, some 66, some 67, some 68, some 69, some 70, some 71, some 72, some 73, some 74, some 75, none] (by kernel_rfl) (by kernel_rfl) (by kernel_rfl) (by kernel_rfl) (of_decide_eq_true (by kernel_rfl)) (by kernel_rfl) (fun _ w' => invH W15 g2 w') (⟨(Bes.refl g2 W15).drew, zeroC, HZ2.out, rfl⟩) (pdRN bv b [] FC true g2 W15.heap.size) (fun _ _ => false) (by kernel_rfl) ?_ ?_
        · intro ix hix o w1 b9 Lc ho hL hneed hbel hv hstood hsize K hK0
          have hK : ∀ u w', pdRN bv b [] FC true g2 W15.heap.size ix u w' → Below w1.heap.size w1 w' → K (b9.put o.dst u) w' := fun u w' h hb => hK0 u w' h (fun k v _ _ _ h2 => pdRN_mono bv b [] FC true g2 W15.heap.size k v _ _ h2 hb) (invH_step hbel hb)
          have hc : ix = 0 ∨ ix = 1 ∨ ix = 2 ∨ ix = 3 ∨ ix = 4 ∨ ix = 5 ∨ ix = 6 ∨ ix = 7 ∨ ix = 8 ∨ ix = 9 ∨ ix = 10 ∨ ix = 11 ∨ ix = 12 := by omega
          rcases hc with rfl | rfl | rfl | rfl | rfl | rfl | rfl | rfl | rfl | rfl | rfl | rfl | rfl
          · obtain rfl : (⟨some 64, .load 83 (Operand.tmp 6), _, _, _, _⟩ : Oper) = o := Option.some.inj ho
            refine ask_plain rfl ?_
            have e1 : b9.eval (.tmp 6) = .pointer (some ⟨g6, 0, none⟩) := (hstood 6 (by kernel_rfl)).trans rfl
            exact wp_load_cells 83 (.tmp 6) rfl ⟨g6, 0, none⟩ e1 FC _ rfl (fun j v hj => by rw [add_zero_off, Joins.cell_of_block ((hbel.1.block g6 (Array.getElem?_eq_some_iff.1 HG6.out).1 (by have := HG46.out; omega)).trans HG6.out)]; exact hj) Try.underlying83 HS83.out (hK _ _ rfl (Below.refl _ _))
          · obtain rfl : (⟨some 65, .load 83 (Operand.tmp 6), _, _, _, _⟩ : Oper) = o := Option.some.inj ho
            refine ask_plain rfl ?_
            have e1 : b9.eval (.tmp 6) = .pointer (some ⟨g6, 0, none⟩) := (hstood 6 (by kernel_rfl)).trans rfl
            exact wp_load_cells 83 (.tmp 6) rfl ⟨g6, 0, none⟩ e1 FC _ rfl (fun j v hj => by rw [add_zero_off, Joins.cell_of_block ((hbel.1.block g6 (Array.getElem?_eq_some_iff.1 HG6.out).1 (by have := HG46.out; omega)).trans HG6.out)]; exact hj) Try.underlying83 HS83.out (hK _ _ rfl (Below.refl _ _))
          · obtain rfl : (⟨some 66, .call { callee := (Callee.value (Operand.func 64)), args := #[(Operand.tmp 65)], argTypes := #[83] }, _, _, _, _⟩ : Oper) = o := Option.some.inj ho
            refine ask_plain rfl ?_
            have e1 : b9.eval (.tmp 65) = .agg FC := hv 1 65 (by kernel_rfl) (by kernel_rfl) (of_decide_eq_true (by kernel_rfl))
            refine wp_call_fn 64 #[.tmp 65] #[83] rfl Try.f64 _ Try.func64 (by kernel_rfl) rfl #[.agg FC] (by simp [e1]) ((HCK.out w1).mono ?_)
            rintro e w2 ⟨rfl, hb2⟩
            exact ⟨_, rfl, hK _ _ rfl hb2⟩
          · obtain rfl : (⟨some 67, .binOp BinOp.eql 44 (Operand.tmp 66) (Operand.const (Value.int IntKind.i64 0)) 44, _, _, _, _⟩ : Oper) = o := Option.some.inj ho
            refine ask_plain rfl ?_
            have e0 : b9.eval (.tmp 66) = .int .i64 180 := hv 2 66 (by kernel_rfl) (by kernel_rfl) (of_decide_eq_true (by kernel_rfl))
            exact wp_val (.bool false) (by simp only [execOp, e0]; simp [go_sem]) (hK _ _ rfl (Below.refl _ _))
          · obtain rfl : (⟨some 68, .move (Operand.tmp 67), _, _, _, _⟩ : Oper) = o := Option.some.inj ho
            refine ask_plain rfl ?_
            have e : b9.eval (.tmp 67) = .bool false := hv 3 67 (by kernel_rfl) (by kernel_rfl) (of_decide_eq_true (by kernel_rfl))
            exact wp_val _ rfl (hK _ _ e (Below.refl _ _))
          · obtain rfl : (⟨some 69, .load 83 (Operand.tmp 6), _, _, _, _⟩ : Oper) = o := Option.some.inj ho
            have hgd := hv 4 68 (by kernel_rfl) (by kernel_rfl) (of_decide_eq_true (by kernel_rfl))
            refine ask_no 4 68 true false rfl (by kernel_rfl) (by rw [hsize]; exact (of_decide_eq_true (by kernel_rfl))) hgd (by decide) ?_
            exact hK _ _ rfl (Below.refl _ _)
          · obtain rfl : (⟨some 70, .call { callee := (Callee.value (Operand.func 93)), args := #[(Operand.tmp 69)], argTypes := #[83] }, _, _, _, _⟩ : Oper) = o := Option.some.inj ho
            have hgd := hv 4 68 (by kernel_rfl) (by kernel_rfl) (of_decide_eq_true (by kernel_rfl))
            refine ask_no 4 68 true false rfl (by kernel_rfl) (by rw [hsize]; exact (of_decide_eq_true (by kernel_rfl))) hgd (by decide) ?_
            exact hK _ _ rfl (Below.refl _ _)
          · obtain rfl : (⟨some 71, .convert 35 9 (Operand.tmp 70), _, _, _, _⟩ : Oper) = o := Option.some.inj ho
            have hgd := hv 4 68 (by kernel_rfl) (by kernel_rfl) (of_decide_eq_true (by kernel_rfl))
            refine ask_no 4 68 true false rfl (by kernel_rfl) (by rw [hsize]; exact (of_decide_eq_true (by kernel_rfl))) hgd (by decide) ?_
            exact hK _ _ rfl (Below.refl _ _)
          · obtain rfl : (⟨some 72, .move (Operand.tmp 0), _, _, _, _⟩ : Oper) = o := Option.some.inj ho
            have hgd := hv 4 68 (by kernel_rfl) (by kernel_rfl) (of_decide_eq_true (by kernel_rfl))
            refine ask_no 4 68 true false rfl (by kernel_rfl) (by rw [hsize]; exact (of_decide_eq_true (by kernel_rfl))) hgd (by decide) ?_
            exact hK _ _ rfl (Below.refl _ _)
          · obtain rfl : (⟨some 73, .convert 35 9 (Operand.tmp 72), _, _, _, _⟩ : Oper) = o := Option.some.inj ho
            have hgd := hv 4 68 (by kernel_rfl) (by kernel_rfl) (of_decide_eq_true (by kernel_rfl))
            refine ask_no 4 68 true false rfl (by kernel_rfl) (by rw [hsize]; exact (of_decide_eq_true (by kernel_rfl))) hgd (by decide) ?_
            exact hK _ _ rfl (Below.refl _ _)
          · obtain rfl : (⟨some 74, .binOp BinOp.eql 9 (Operand.tmp 71) (Operand.tmp 73) 9, _, _, _, _⟩ : Oper) = o := Option.some.inj ho
            have hgd := hv 4 68 (by kernel_rfl) (by kernel_rfl) (of_decide_eq_true (by kernel_rfl))
            refine ask_no 4 68 true false rfl (by kernel_rfl) (by rw [hsize]; exact (of_decide_eq_true (by kernel_rfl))) hgd (by decide) ?_
            exact hK _ _ rfl (Below.refl _ _)
          · obtain rfl : (⟨some 75, .pick (Operand.tmp 68) (Operand.tmp 74) (Operand.const (Value.bool false)), _, _, _, _⟩ : Oper) = o := Option.some.inj ho
            refine ask_plain rfl ?_
            have e0 : b9.eval (.tmp 68) = .bool false := hv 4 68 (by kernel_rfl) (by kernel_rfl) (of_decide_eq_true (by kernel_rfl))
            have e1 : b9.eval (.tmp 74) = undef := hv 10 74 (by kernel_rfl) (by kernel_rfl) (of_decide_eq_true (by kernel_rfl))
            exact wp_val (.bool false) (by simp only [execOp, e0, e1]; rfl) (hK _ _ rfl (Below.refl _ _))
          · obtain rfl : (⟨none, .store 83 (Operand.tmp 2) (Operand.tmp 64), _, _, _, _⟩ : Oper) = o := Option.some.inj ho
            refine ask_plain rfl ?_
            have e1 : b9.eval (.tmp 64) = .agg FC := hv 0 64 (by kernel_rfl) (by kernel_rfl) (of_decide_eq_true (by kernel_rfl))
            have e2 : b9.eval (.tmp 2) = .pointer (some ⟨g2, 0, none⟩) := (hstood 2 (by kernel_rfl)).trans rfl
            obtain ⟨hbe, C, hC, hCs⟩ := hbel
            refine wp_store_row 83 (.tmp 2) (.tmp 64) rfl g2 FC e2 e1 83 C hC HS83.out (by rw [hCs, HFS.out]) HF1.out ?_
            have hC2 := setRow_heap w1 g2 _ FC 83 _ hC
            exact hK0 _ _ hC2 (fun k v hk _ _ h => pdRN_bes bv b [] FC true g2 W15.heap.size k v w1 _ hk h ((Bes.refl g2 w1).setRow FC) HGN.out) ⟨hbe.setRow FC, FC, hC2, HFS.out⟩
        · rintro vs w16 hp ⟨_, hb16⟩
          have v0 : vs 0 = .agg FC := hp 0 (by decide) (fun _ _ => rfl)
          have v11 : vs 11 = .bool false := hp 11 (by decide) (fun _ _ => rfl)
          change wpList _ _ _ [_] _ _
          simp only [putD, Act.put, List.setIfInBounds_toArray, List.set_cons_zero, List.set_cons_succ, v0, v11]
          generalize vs 1 = y1, vs 2 = y2, vs 3 = y3, vs 4 = y4, vs 5 = y5, vs 6 = y6, vs 7 = y7, vs 8 = y8, vs 9 = y9, vs 10 = y10
          have z16 : w16.heap[g2]? = some (.cells FC 83 (0, 0)) := hp 12 (by decide) (fun _ _ => rfl)
          have Z16 := Lib.hid z16
          have B16 := Lib.hid (HB9.out.trans (hb16.1.to_below HN2.out HB9.out.size))
          clear hp hb16 v0 v11 z16
          go_wp2_with fail
          exact bodyPost_ret (v := .tuple #[.agg FC, .bool false]) (read_out g2 FC false _ _ (by rfl) (by rfl) Z16.out HS83.out) rfl (.inr ⟨HNO.out, FC, HFS.out, HF1.out, rfl, B16.out⟩)
end Go.Proofs.Ytjaakhjfpigdfaa
/-! Frames: the reference's open. -/
namespace Go.Proofs.Ytjaakhjfpigdfaa
open Go.RowKit
set_option linter.unusedVariables false
set_option linter.unusedSimpArgs false
def pdRO (kv : Value) (a0 : Addr) (n c m g7 : Nat) (x0 : BitVec 8) (F b : By) : Nat → Value → World → Prop
  | 0 => fun v w => v = kv
  | 1 => fun v w => v = .pointer (some ⟨g7, 0, none⟩)
  | 2 => fun v w => v = .int .i64 (x0.toNat : Int)
  | 3 => fun v w => v = .slice (some a0) n c
  | 4 => fun v w => v = .slice (some a0) n c
  | 5 => fun v w => v = .int .i64 (n : Int)
  | 6 => fun v w => v = .int .i64 (m : Int)
  | 7 => fun v w => v = .slice (some a0) m c
  | 8 => fun v w => EqN w F v
  | 9 => fun v w => v = .string (strV F)
  | 10 => fun v w => v = .slice (some a0) n c
  | 11 => fun v w => v = .string (strV b)
  | _ => fun _ _ => True
theorem pdRO_mono (kv : Value) (a0 : Addr) (n c m g7 : Nat) (x0 : BitVec 8) (F b : By) : ∀ q0 v w w', pdRO kv a0 n c m g7 x0 F b q0 v w → Below w.heap.size w w' → pdRO kv a0 n c m g7 x0 F b q0 v w'
  | 0, _, _, _, h, _ => h
  | 1, _, _, _, h, _ => h
  | 2, _, _, _, h, _ => h
  | 3, _, _, _, h, _ => h
  | 4, _, _, _, h, _ => h
  | 5, _, _, _, h, _ => h
  | 6, _, _, _, h, _ => h
  | 7, _, _, _, h, _ => h
  | 8, _, _, _, h, hb => EqN.below h hb
  | 9, _, _, _, h, _ => h
  | 10, _, _, _, h, _ => h
  | 11, _, _, _, h, _ => h
  | _ + 12, _, _, _, _, _ => trivial
set_option maxRecDepth 100000 in
theorem ropen_out (g4 : Nat) (XC : Array Value) (ev : Int) (w' : World) (tm : Array Value) (ht : tm[4]?.getD undef = .pointer (some ⟨g4, 0, none⟩)) (ht5 : tm[5]?.getD undef = .int .i64 ev) (h1 : w'.heap[g4]? = some (.cells XC 83 (0, 0))) (hx : (Try.prog.info? 83).map (·.size) = some XC.size) :
    (results Try.f69 tm).run Try.prog w' = .ok (.tuple #[.agg XC, .int .i64 ev]) w' := by
  have e1 := run_loadVar_row (P := Try.prog) w' g4 83 83 XC (0, 0) _ h1 Try.underlying83 rfl hx
  simp [results, Try.results69, asAddr, ht, ht5, e1]
set_option maxRecDepth 100000 in
set_option maxHeartbeats 8000000 in
theorem rOpen_any (k : By) (kv : Value) (b : By) (bv : Value) (w : World) (hk : EqN w k kv) (hkl : k.length ≤ 1000000) (hb : EqN w b bv) (hbl : b.length ≤ 1000000) : Calls Try.prog 69 #[kv, bv] w fun e w' => ∃ u, e = .returned (.tuple #[frV (opF k b).1 u, .int .i64 (opF k b).2]) ∧ EqN w' (opF k b).1.body u ∧ Below w.heap.size w w' := by
  have HSZ := Lib.hid (show (Try.prog.info? 83).map (·.size) = some zeroC.size by kernel_rfl)
  have hz : zeroC = #[.int .i64 0, .int .i64 0, .int .u64 0, .int .u64 0, .int .i64 0, .slice none 0 0, .int .i64 0, .int .u64 0] := rfl
  have HZC := Lib.hid hz
  have z4 := heap_new w (.cells zeroC 83) w.heap.size rfl
  have b4 := below_alloc1 w (.cells zeroC 83)
  have HKL := Lib.hid hkl
  obtain ⟨W1, hW1⟩ : ∃ W, w.alloc (.cells zeroC 83) = W := ⟨_, rfl⟩
  rw [hW1] at z4 b4
  have HW1 := Lib.hid hW1
  have HKV1 := Lib.hid (hk.below b4)
  have HBV := Lib.hid hb
  have Z4 := Lib.hid z4
  have B4 := Lib.hid b4
  obtain ⟨A, c, rfl, hc, hr, hn⟩ := hb
  have HR := Lib.hid hr
  obtain ⟨n, hbn⟩ : ∃ n, b.length = n := ⟨_, rfl⟩
  have HBN := Lib.hid hbn
  rw [hbn] at hc hbl HBV ⊢
  clear hk hr hn hbn hkl hz z4 b4 hW1
  by_cases h32 : n < 32
  · have HS := Lib.hid (show opF k b = (zeroFr, 180) by unfold opF; rw [HBN.out, if_pos h32])
    have hI : decide ((n : Int) < 32) = true := by simp; omega
    go_enter Try.func69, Try.ntmps69
    go_upto_region 1 with (fail)
    rw [← HZC.out, HW1.out]
    clear HW1
    go_wp2_with (first | ((with_reducible show wpList _ _ _ (⟨none, .store 83 (.tmp 4) (.tmp 11), _, _, _, _⟩ :: _) _ _); refine wpList_store_row rfl 83 (.tmp 4) (.tmp 11) rfl w.heap.size zeroC rfl rfl 83 _ Z4.out HSZ.out rfl zeroC_one ?_) | fail)
    have hs : W1.setRow w.heap.size zeroC = W1 := Go.setRow_self W1 w.heap.size zeroC 83 (0, 0) Z4.out
    rw [hs]
    refine bodyPost_ret (v := .tuple #[.agg zeroC, .int .i64 180]) (ropen_out w.heap.size zeroC 180 W1 _ (by rfl) (by rfl) Z4.out HSZ.out) rfl ⟨.slice none 0 0, ?_, ?_, B4.out⟩
    · rw [HS.out]; rfl
    · rw [HS.out]; exact EqN.nil _
  · obtain ⟨m, hm⟩ : ∃ m, n - 32 = m := ⟨_, rfl⟩
    have hnm : n = m + 32 := by omega
    have hmc : m ≤ c := by omega
    have hmI : (n : Int) - 32 = (m : Int) := by omega
    have HBD1 := Lib.hid (show EqN w (bodyOf b) (.slice A m c) from by
      unfold bodyOf
      rw [HBN.out, hm]
      have h := HBV.out
      rw [← HBN.out] at h
      exact h.take m (by rw [HBN.out]; omega))
    obtain ⟨a0, rfl⟩ : ∃ a, A = some a := by
      obtain ⟨a, e, _⟩ := RdB.at' HR.out 0 (by rw [HBN.out]; omega)
      exact ⟨a, e⟩
    have htl : (tagOf b).length = 32 := by unfold tagOf; rw [List.length_drop, HBN.out]; omega
    have hbdl : (bodyOf b).length ≤ 1000000 := by unfold bodyOf; rw [List.length_take, HBN.out]; omega
    have hbt := body_tag b
    have HOP := Lib.hid (show opF k b = (match parseF (bodyOf b) with
      | none => (zeroFr, 180)
      | some f => if sealF k (BitVec.ofInt 8 f.fr) (bodyOf b) = tagOf b then (f, 0) else (zeroFr, 40)) by unfold opF; rw [HBN.out, if_neg h32]; cases parseF (bodyOf b) <;> rfl)
    obtain ⟨bd, hbd2⟩ : ∃ q, bodyOf b = q := ⟨_, rfl⟩
    obtain ⟨tg, htg2⟩ : ∃ q, tagOf b = q := ⟨_, rfl⟩
    rw [hbd2] at HBD1 hbdl HOP hbt
    rw [htg2] at htl HOP hbt
    have HBT := Lib.hid hbt
    have HBDL := Lib.hid hbdl
    have hI : decide ((n : Int) < 32) = false := by simp; omega
    have hsub : IntKind.i64.wrap ((n : Int) - 32) = (m : Int) := by rw [hmI, IntKind.wrap_i64]; omega
    have HSUB := Lib.hid hsub
    have PA := Lib.hid (fread_any bd (.slice (some a0) m c) W1 (HBD1.out.below B4.out) hbdl)
    clear htl hbdl hbd2 htg2 h32 hm HR hbt
    go_enter Try.func69, Try.ntmps69
    go_upto_region 1 with (fail)
    rw [← HZC.out, HW1.out]
    clear HW1
    --@a
    go_upto_region 3 with (fail)
    --@b
    have HNM := Lib.hid hnm
    have hm6 : m ≤ 1000000 := by omega
    clear hnm
    go_wp2_with fail
    --@c
    refine PA.out.mono ?_
    rintro e w2 (⟨f, u, hpf, rfl, hEu, hb2⟩ | ⟨hpf, X, hXs, hX1, rfl, hb2⟩)
    rotate_left
    · have HS := Lib.hid (show opF k b = (zeroFr, 180) by rw [HOP.out, hpf])
      have z2 := keepH hb2 Z4.out
      have b2 := B4.out.trans (hb2.mono B4.out.size)
      have b3 : Below w2.heap.size w2 ((w2.alloc (.cells zeroC 83)).setRow w2.heap.size X) := below_setRow _ _ ((Below.refl _ _).alloc (Nat.le_refl _) _) (Nat.le_refl _)
      have Z2 := Lib.hid (keepH b3 z2)
      have HS4 := Lib.hid (show ((w2.alloc (.cells zeroC 83)).setRow w2.heap.size X).setRow w.heap.size zeroC = (w2.alloc (.cells zeroC 83)).setRow w2.heap.size X from Go.setRow_self _ w.heap.size zeroC 83 (0, 0) Z2.out)
      have B2 := Lib.hid (b2.trans (b3.mono b2.size))
      have HZ83 := Lib.hid (show (w2.alloc (.cells zeroC 83)).heap[w2.heap.size]? = some (.cells zeroC 83 (0, 0)) from heap_new _ _ _ rfl)
      have HXS := Lib.hid (show (Try.prog.info? 83).map (·.size) = some X.size by rw [hXs]; kernel_rfl)
      have HXZ := Lib.hid (show zeroC.size = X.size by rw [hXs]; rfl)
      have HX1 := Lib.hid hX1
      clear hpf z2 b2 b3 hb2 PA HOP hXs hX1
      go_wp2_with (first | ((with_reducible show wpList _ _ _ (⟨none, .store 83 (.tmp 6) (.tmp 19), _, _, _, _⟩ :: _) _ _); rw [← HZC.out]; refine wpList_store_row rfl 83 (.tmp 6) (.tmp 19) rfl w2.heap.size X rfl rfl 83 _ HZ83.out HXS.out HXZ.out HX1.out ?_) | ((with_reducible show wpList _ _ _ (⟨none, .store 83 (.tmp 4) (.tmp 23), _, _, _, _⟩ :: _) _ _); refine wpList_store_row rfl 83 (.tmp 4) (.tmp 23) rfl w.heap.size zeroC rfl rfl 83 _ Z2.out HSZ.out rfl zeroC_one ?_; rw [HS4.out]) | fail)
      refine bodyPost_ret (v := .tuple #[.agg zeroC, .int .i64 180]) (ropen_out w.heap.size zeroC 180 _ _ (by rfl) (by rfl) Z2.out HSZ.out) rfl ⟨.slice none 0 0, ?_, ?_, B2.out⟩
      · rw [HS.out]; rfl
      · rw [HS.out]; exact EqN.nil _
    --@d
    obtain ⟨hok, hbf⟩ := parse_some bd f hpf
    have h1 := ((okF_iff f).1 hok).1
    have hOS : opF k b = if sealF k (BitVec.ofInt 8 f.fr) bd = tg then (f, 0) else (zeroFr, 40) := by rw [HOP.out, hpf]
    obtain ⟨Au, cu, hu, hcu, hru, hnu⟩ := hEu
    have hE2 : EqN w2 f.body (.slice Au f.body.length cu) := ⟨Au, cu, rfl, hcu, hru, hnu⟩
    subst hu
    obtain ⟨fr, ep, me, you, nn, body, al, more⟩ := f
    simp only at h1 hE2
    obtain ⟨x0, hx0, rfl⟩ : ∃ x0 : BitVec 8, BitVec.ofInt 8 fr = x0 ∧ fr = (x0.toNat : Int) := ⟨BitVec.ofInt 8 fr, rfl, by rcases h1 with rfl | rfl <;> rfl⟩
    simp only [hx0] at hOS
    obtain ⟨bl, hbl2⟩ : ∃ n, body.length = n := ⟨_, rfl⟩
    have hfo := fr_cells_one ⟨(x0.toNat : Int), ep, me, you, nn, body, al, more⟩ Au bl cu
    have hfv : frV ⟨(x0.toNat : Int), ep, me, you, nn, body, al, more⟩ (.slice Au bl cu) = .agg #[.int .i64 (x0.toNat : Int), .int .i64 ep, .int .u64 (me.toNat : Int), .int .u64 (you.toNat : Int), .int .i64 nn, .slice Au bl cu, .int .i64 al, .int .u64 (more.toNat : Int)] := rfl
    simp only [hbl2] at hE2 ⊢
    simp only at hfo
    have hbody : (⟨(x0.toNat : Int), ep, me, you, nn, body, al, more⟩ : Fr).body = body := rfl
    obtain ⟨f, hf⟩ : ∃ f, (⟨(x0.toNat : Int), ep, me, you, nn, body, al, more⟩ : Fr) = f := ⟨_, rfl⟩
    rw [hf] at hOS hfv hbody ⊢
    obtain ⟨FC, hFC⟩ : ∃ F : Array Value, #[.int .i64 (x0.toNat : Int), .int .i64 ep, .int .u64 (me.toNat : Int), .int .u64 (you.toNat : Int), .int .i64 nn, .slice Au bl cu, .int .i64 al, .int .u64 (more.toNat : Int)] = F := ⟨_, rfl⟩
    rw [hFC] at hfo hfv
    have HF0 := Lib.hid (show FC[0]? = some (.int .i64 (x0.toNat : Int)) by rw [← hFC]; rfl)
    have HFS := Lib.hid (show zeroC.size = FC.size by rw [← hFC]; rfl)
    have HS83 := Lib.hid (show (Try.prog.info? 83).map (·.size) = some FC.size by rw [← hFC]; kernel_rfl)
    have HFV := Lib.hid hfv
    have HF1 := Lib.hid hfo
    rw [hfv]
    obtain ⟨Z, hZ⟩ : ∃ Z, sealF k x0 bd = Z := ⟨_, rfl⟩
    obtain ⟨F, hF9⟩ : ∃ F, bd ++ Z = F := ⟨_, rfl⟩
    have HF9 := Lib.hid hF9
    have HFB := Lib.hid (show F = b ↔ Z = tg by
      rw [← hF9, ← HBT.out]
      exact ⟨fun h => List.append_cancel_left h, fun h => by rw [h]⟩)
    have hzl := sealF_len k x0 bd
    rw [hZ] at hOS hzl
    have HZ1 := Lib.hid hZ
    have HZL := Lib.hid hzl
    have HOS := Lib.hid hOS
    have HBODY := Lib.hid hbody
    have HE2 := Lib.hid hE2
    have Z2 := Lib.hid (keepH hb2 Z4.out)
    have HB2 := Lib.hid hb2
    have BW2 := Lib.hid (B4.out.trans (hb2.mono B4.out.size))
    clear hok hbf hpf h1 hOS hcu hru hnu hE2 hx0 hbl2 hfo hfv hbody hf hFC hZ hzl hb2 PA HOP hF9
    --@e
    go_upto_region 6 with (first | ((with_reducible show wpList _ _ _ (⟨none, .store 83 (.tmp 6) (.tmp 19), _, _, _, _⟩ :: _) _ _); rw [← HZC.out]; refine wpList_store_row rfl 83 (.tmp 6) (.tmp 19) rfl w2.heap.size FC rfl rfl 83 _ (heap_new _ _ _ rfl) HS83.out HFS.out HF1.out ?_) | fail)
    generalize hW5 : (World.setRow _ _ _) = W5
    obtain ⟨g7, hg7⟩ : ∃ g, w2.heap.size = g := ⟨_, rfl⟩
    have b5 : Below w2.heap.size w2 W5 := by rw [← hW5]; exact below_setRow _ _ ((Below.refl _ _).alloc (Nat.le_refl _) _) (Nat.le_refl _)
    have HG7 := Lib.hid (show W5.heap[g7]? = some (.cells FC 83 (0, 0)) by rw [← hW5, ← hg7]; exact setRow_heap _ _ _ _ _ _ (heap_new _ _ _ rfl))
    have Z5 := Lib.hid (keepH b5 Z2.out)
    have BW5 := Lib.hid (BW2.out.trans (b5.mono BW2.out.size))
    have HKV := Lib.hid ((HKV1.out.below HB2.out).below b5)
    have HBD := Lib.hid (HBD1.out.below BW5.out)
    have HBV5 := Lib.hid (HBV.out.below BW5.out)
    have HE5 := Lib.hid (HE2.out.below b5)
    rw [hg7]
    clear hW5 hg7 b5 HE2 Z2 HB2 BW2
    refine wp_region_mono (w0 := _) 12 [some 24, some 25, some 26, some 27, some 28, some 29, some 30, some 31, some 32, some 33, some 34, some 35] (by kernel_rfl) (by kernel_rfl) (by kernel_rfl) (by kernel_rfl) (of_decide_eq_true (by kernel_rfl)) (by kernel_rfl) (pdRO kv a0 n c m g7 x0 F b) ?_ ?_ ?_
    · exact pdRO_mono kv a0 n c m g7 x0 F b
    · intro i hi o w1 b9 ho hbel hv hstood hsize K hK
      have hc : i = 0 ∨ i = 1 ∨ i = 2 ∨ i = 3 ∨ i = 4 ∨ i = 5 ∨ i = 6 ∨ i = 7 ∨ i = 8 ∨ i = 9 ∨ i = 10 ∨ i = 11 := by omega
      rcases hc with rfl | rfl | rfl | rfl | rfl | rfl | rfl | rfl | rfl | rfl | rfl | rfl
      · obtain rfl : (⟨some 24, .move (Operand.tmp 0), _, _, _, _⟩ : Oper) = o := Option.some.inj ho
        refine ask_plain rfl ?_
        have e : b9.eval (.tmp 0) = kv := (hstood 0 (by kernel_rfl)).trans rfl
        exact wp_val _ rfl (hK _ _ e (Below.refl _ _))
      · obtain rfl : (⟨some 25, .fieldAddr 83 (Operand.tmp 6) 0, _, _, _, _⟩ : Oper) = o := Option.some.inj ho
        refine ask_plain rfl ?_
        have e : b9.eval (.tmp 6) = .pointer (some ⟨g7, 0, none⟩) := (hstood 6 (by kernel_rfl)).trans rfl
        exact wp_val (.pointer (some ⟨g7, 0, none⟩)) (by simp only [execOp, e, Sem.run_bind, field83 g7 0 (by decide), Result.andThen]; rfl) (hK _ _ rfl (Below.refl _ _))
      · obtain rfl : (⟨some 26, .load 3 (Operand.tmp 25), _, _, _, _⟩ : Oper) = o := Option.some.inj ho
        refine ask_plain rfl ?_
        have e : b9.eval (.tmp 25) = .pointer (some ⟨g7, 0, none⟩) := hv 1 25 (by kernel_rfl) (by kernel_rfl) (of_decide_eq_true (by kernel_rfl))
        have hq : w1.cell? ⟨g7, 0, none⟩ = some (.int .i64 (x0.toNat : Int)) := by rw [Joins.cell_of_block (keepH hbel HG7.out)]; exact HF0.out
        exact wp_val (.int .i64 (x0.toNat : Int)) (by simp only [execOp, e]; exact load3 _ _ _ hq) (hK _ _ rfl (Below.refl _ _))
      · obtain rfl : (⟨some 27, .move (Operand.tmp 1), _, _, _, _⟩ : Oper) = o := Option.some.inj ho
        refine ask_plain rfl ?_
        have e : b9.eval (.tmp 1) = .slice (some a0) n c := (hstood 1 (by kernel_rfl)).trans rfl
        exact wp_val _ rfl (hK _ _ e (Below.refl _ _))
      · obtain rfl : (⟨some 28, .move (Operand.tmp 1), _, _, _, _⟩ : Oper) = o := Option.some.inj ho
        refine ask_plain rfl ?_
        have e : b9.eval (.tmp 1) = .slice (some a0) n c := (hstood 1 (by kernel_rfl)).trans rfl
        exact wp_val _ rfl (hK _ _ e (Below.refl _ _))
      · obtain rfl : (⟨some 29, .call { callee := (Callee.builtin Builtin.len), args := #[(Operand.tmp 28)], argTypes := #[35] }, _, _, _, _⟩ : Oper) = o := Option.some.inj ho
        refine ask_plain rfl ?_
        have e : b9.eval (.tmp 28) = .slice (some a0) n c := hv 4 28 (by kernel_rfl) (by kernel_rfl) (of_decide_eq_true (by kernel_rfl))
        exact wp_len35F (.tmp 28) rfl (some a0) n c e (hK _ _ rfl (Below.refl _ _))
      · obtain rfl : (⟨some 30, .binOp BinOp.sub 3 (Operand.tmp 29) (Operand.const (Value.int IntKind.i64 32)) 3, _, _, _, _⟩ : Oper) = o := Option.some.inj ho
        refine ask_plain rfl ?_
        have e : b9.eval (.tmp 29) = .int .i64 (n : Int) := hv 5 29 (by kernel_rfl) (by kernel_rfl) (of_decide_eq_true (by kernel_rfl))
        have hs := HSUB.out
        exact wp_val (.int .i64 (m : Int)) (by simp only [execOp, e]; simp [go_sem, hs]) (hK _ _ rfl (Below.refl _ _))
      · obtain rfl : (⟨some 31, .slice 35 (Operand.tmp 27) none (some (Operand.tmp 30)) none, _, _, _, _⟩ : Oper) = o := Option.some.inj ho
        refine ask_plain rfl ?_
        have e1 : b9.eval (.tmp 27) = .slice (some a0) n c := hv 3 27 (by kernel_rfl) (by kernel_rfl) (of_decide_eq_true (by kernel_rfl))
        have e2 : b9.eval (.tmp 30) = .int .i64 (m : Int) := hv 6 30 (by kernel_rfl) (by kernel_rfl) (of_decide_eq_true (by kernel_rfl))
        have hf := run_take (some a0) n c m hmc w1
        exact wp_val (.slice (some a0) m c) (by simp only [execOp, e1, e2, hf, Option.map_some, Option.map_none, Sem.run_bind, Result.andThen]; rfl) (hK _ _ rfl (Below.refl _ _))
      · obtain rfl : (⟨some 32, .call { callee := (Callee.value (Operand.func 92)), args := #[(Operand.tmp 24), (Operand.tmp 26), (Operand.tmp 31)], argTypes := #[35, 3, 35] }, _, _, _, _⟩ : Oper) = o := Option.some.inj ho
        refine ask_plain rfl ?_
        have e1 : b9.eval (.tmp 24) = kv := hv 0 24 (by kernel_rfl) (by kernel_rfl) (of_decide_eq_true (by kernel_rfl))
        have e2 : b9.eval (.tmp 26) = .int .i64 (x0.toNat : Int) := hv 2 26 (by kernel_rfl) (by kernel_rfl) (of_decide_eq_true (by kernel_rfl))
        have e3 : b9.eval (.tmp 31) = .slice (some a0) m c := hv 7 31 (by kernel_rfl) (by kernel_rfl) (of_decide_eq_true (by kernel_rfl))
        have hcall := rsealed_any k kv x0 bd (.slice (some a0) m c) w1 (HKV.out.below hbel) HKL.out (HBD.out.below hbel) HBDL.out
        rw [HZ1.out, HF9.out] at hcall
        refine wp_call_fn 92 #[.tmp 24, .tmp 26, .tmp 31] #[35, 3, 35] rfl Try.f92 _ Try.func92 (by kernel_rfl) rfl #[kv, .int .i64 (x0.toNat : Int), .slice (some a0) m c] (by simp [e1, e2, e3]) (hcall.mono ?_)
        rintro e w2 ⟨v2, rfl, hown2, hb2⟩
        exact ⟨_, rfl, hK _ _ hown2.eqn hb2⟩
      · obtain rfl : (⟨some 33, .convert 35 9 (Operand.tmp 32), _, _, _, _⟩ : Oper) = o := Option.some.inj ho
        refine ask_plain rfl ?_
        have e1 : EqN w1 F (b9.eval (.tmp 32)) := hv 8 32 (by kernel_rfl) (by kernel_rfl) (of_decide_eq_true (by kernel_rfl))
        have e2 := conv_EqN e1
        exact wp_val (.string (strV F)) (by simp only [execOp, Sem.run_bind, e2, Result.andThen]; rfl) (hK _ _ rfl (Below.refl _ _))
      · obtain rfl : (⟨some 34, .move (Operand.tmp 1), _, _, _, _⟩ : Oper) = o := Option.some.inj ho
        refine ask_plain rfl ?_
        have e : b9.eval (.tmp 1) = .slice (some a0) n c := (hstood 1 (by kernel_rfl)).trans rfl
        exact wp_val _ rfl (hK _ _ e (Below.refl _ _))
      · obtain rfl : (⟨some 35, .convert 35 9 (Operand.tmp 34), _, _, _, _⟩ : Oper) = o := Option.some.inj ho
        refine ask_plain rfl ?_
        have e1 : b9.eval (.tmp 34) = .slice (some a0) n c := hv 10 34 (by kernel_rfl) (by kernel_rfl) (of_decide_eq_true (by kernel_rfl))
        have e2 := conv_EqN (HBV5.out.below hbel)
        exact wp_val (.string (strV b)) (by simp only [execOp, Sem.run_bind, e1, e2, Result.andThen]; rfl) (hK _ _ rfl (Below.refl _ _))
    · intro vs w7 hp hb7
      have v9 : vs 9 = .string (strV F) := hp 9 (by decide)
      have v11 : vs 11 = .string (strV b) := hp 11 (by decide)
      have Z7 := Lib.hid (keepH hb7 Z5.out)
      have G7 := Lib.hid (keepH hb7 HG7.out)
      have BW7 := Lib.hid (BW5.out.trans (hb7.mono BW5.out.size))
      have HE7 := Lib.hid (HE5.out.below hb7)
      change wpList _ _ _ [_] _ _
      by_cases hq : Z = tg
      · have hse : strV F = strV b := by rw [HFB.out.2 hq]
        have HQ := Lib.hid (show opF k b = (f, 0) by rw [HOS.out, if_pos hq])
        simp only [putD, Act.put, List.setIfInBounds_toArray, List.set_cons_zero, List.set_cons_succ, v9, v11]
        generalize vs 0 = y0, vs 1 = y1, vs 2 = y2, vs 3 = y3, vs 4 = y4, vs 5 = y5, vs 6 = y6, vs 7 = y7, vs 8 = y8, vs 10 = y10
        obtain ⟨S, hS⟩ : ∃ S, strV b = S := ⟨_, rfl⟩
        rw [hse, hS]
        clear hp hb7 hq v9 v11 HOS hse hS HFB
        go_wp2_with (first | ((with_reducible show wpList _ _ _ (⟨some 38, .load 83 (.tmp 6), _, _, _, _⟩ :: _) _ _); refine wpList_load_cells rfl 83 (.tmp 6) rfl ⟨g7, 0, none⟩ rfl FC _ rfl (fun j v hj => by rw [add_zero_off, Joins.cell_of_block G7.out]; exact hj) Try.underlying83 HS83.out ?_) | ((with_reducible show wpList _ _ _ (⟨none, .store 83 (.tmp 4) (.tmp 38), _, _, _, _⟩ :: _) _ _); refine wpList_store_row rfl 83 (.tmp 4) (.tmp 38) rfl w.heap.size FC rfl rfl 83 _ Z7.out HS83.out HFS.out HF1.out ?_) | fail)
        refine bodyPost_ret (v := .tuple #[.agg FC, .int .i64 0]) (ropen_out w.heap.size FC 0 _ _ (by rfl) (by rfl) (setRow_heap w7 w.heap.size _ FC 83 _ Z7.out) HS83.out) rfl ⟨.slice Au bl cu, ?_, ?_, below_setRow _ _ BW7.out (Nat.le_refl _)⟩
        · rw [HQ.out, HFV.out]
        · rw [HQ.out, HBODY.out]
          exact HE7.out.bes ((Bes.refl w.heap.size w7).setRow FC) (zero_u8 Z7.out)
      · have hse : ((strV F).toList == (strV b).toList) = false := by
          rw [strV_list]
          have h : ¬ F = b := fun h => hq (HFB.out.1 h)
          simpa using h
        have HQ := Lib.hid (show opF k b = (zeroFr, 40) by rw [HOS.out, if_neg hq])
        have hs4 : w7.setRow w.heap.size zeroC = w7 := Go.setRow_self _ w.heap.size zeroC 83 (0, 0) Z7.out
        have HS4 := Lib.hid hs4
        simp only [putD, Act.put, List.setIfInBounds_toArray, List.set_cons_zero, List.set_cons_succ, v9, v11]
        generalize vs 0 = y0, vs 1 = y1, vs 2 = y2, vs 3 = y3, vs 4 = y4, vs 5 = y5, vs 6 = y6, vs 7 = y7, vs 8 = y8, vs 10 = y10
        obtain ⟨S, hS⟩ : ∃ S, strV b = S := ⟨_, rfl⟩
        obtain ⟨S2, hS2⟩ : ∃ S, strV F = S := ⟨_, rfl⟩
        rw [hS, hS2] at hse
        rw [hS, hS2]
        clear hp hb7 hq v9 v11 HOS hs4 hS hS2 HFB
        go_wp2_with (first | ((with_reducible show wpList _ _ _ (⟨none, .store 83 (.tmp 4) (.tmp 37), _, _, _, _⟩ :: _) _ _); refine wpList_store_row rfl 83 (.tmp 4) (.tmp 37) rfl w.heap.size zeroC rfl rfl 83 _ Z7.out HSZ.out rfl zeroC_one ?_; rw [HS4.out]) | fail)
        refine bodyPost_ret (v := .tuple #[.agg zeroC, .int .i64 40]) (ropen_out w.heap.size zeroC 40 _ _ (by rfl) (by rfl) Z7.out HSZ.out) rfl ⟨.slice none 0 0, ?_, ?_, BW7.out⟩
        · rw [HQ.out]; rfl
        · rw [HQ.out]; exact EqN.nil _
end Go.Proofs.Ytjaakhjfpigdfaa
