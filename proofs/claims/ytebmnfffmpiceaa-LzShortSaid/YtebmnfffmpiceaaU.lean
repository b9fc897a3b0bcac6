import Derived.Test.YtebmnfffmpiceaaS
import Derived.Deep.LoopGhost
/-! The laws' walks: Short. -/
namespace Go.Proofs.Ytebmnfffmpiceaa
open Go.RowKit
set_option linter.unusedVariables false
set_option linter.unusedSimpArgs false
set_option maxRecDepth 100000 in
set_option maxHeartbeats 4000000 in
theorem lzShort_any (l : By) (A : Option Addr) (cap : Nat) (w : World) (hr : RdB w A l) (hl : l.length ≤ cap) (_hs : l.length * 1 ≤ 140737488351232) :
    Calls Try.prog 6 #[.slice A l.length cap] w fun e w' => e = .returned (.bool true) ∧ Below w.heap.size w w' := by
  have hm := hr.1
  have hrt := hr.take 1500
  have hlt : (l.take 1500).length ≤ cap := by rw [List.length_take]; omega
  have hst : (l.take 1500).length ≤ 65536 := by rw [List.length_take]; omega
  have CU := Lib.hid (fun w => cut_any l A cap w hl hm)
  generalize l.take 1500 = b at *
  have hmb := hrt.1
  have T1 := fun w1 (h : Below w.heap.size w w1) => tokens_ok b A cap w1 (RdR.below (R' := EqB) hrt h (fun _ _ h => h)) hlt hst
  have RB := fun w1 (h : Below w.heap.size w w1) => (RdR.below (R' := EqB) hrt h (fun _ _ h => h) : RdB w1 A b)
  have hlen := toks_len b b.length 0 (by omega)
  obtain ⟨T, hT⟩ : ∃ T, toks b 0 = T := ⟨_, rfl⟩
  rw [hT] at T1 hlen
  have HT := Lib.hid hT
  replace T1 := Lib.hid T1
  replace RB := Lib.hid RB
  clear hr hrt hT
  go_enter Try.func6, Try.ntmps6
  go_wp2_with (first | (go_at_call 14; refine (awake_any _).mono ?_; rintro e w0 ⟨rfl, b0⟩) | (go_at_call 10; refine (CU.out _).mono ?_; rintro e w1 ⟨rfl, rfl⟩) | fail)
  refine (T1.out _ b0).mono ?_
  rintro e w1 ⟨v1, rfl, o1, b1⟩
  have b01 := b0.trans (b1.mono b0.size)
  obtain ⟨A1, c1, rfl, h1, r1⟩ := RdT.own o1
  have R1 := Lib.hid r1
  have hTm := r1.1
  clear o1 r1
  have hTl : (T.length : Int) ≤ b.length := by omega
  have hTb : decide (b.length < T.length) = false := by simp; omega
  have hTb' : decide ((b.length : Int) < (T.length : Int)) = false := by simp; omega
  go_wp2
  go_loopg [5, 6] T.length (fun gh av kv wr => ∃ k at' : Nat, T.length - k = gh ∧ k ≤ T.length ∧ at' ≤ b.length ∧ av = .int .i64 at' ∧ kv = .int .i64 k ∧ T.drop k = toks b at' ∧ Below w1.heap.size w1 wr)
  case atStart => exact ⟨0, 0, rfl, Nat.zero_le _, Nat.zero_le _, rfl, rfl, by rw [HT.out]; rfl, Below.refl _ _⟩
  case round =>
    obtain ⟨k, at', rfl, hk, hat, rfl, rfl, hd, hbel⟩ := hrel
    have hsr := hbel.size
    by_cases hlt2 : k < T.length
    · have hat2 : at' < b.length := by
        rcases Nat.lt_or_ge at' b.length with h | h
        · exact h
        · rw [toks_end b at' h, List.drop_eq_nil_iff] at hd; omega
      have hsh := short_tok b at' hat2
      rw [List.drop_eq_getElem_cons hlt2, toks_cons b at' hat2] at hd
      obtain ⟨hd1, hd2⟩ := List.cons.inj hd
      have htl := tokOf_len b at' (longT b at')
      obtain ⟨L, hL⟩ : ∃ L, (longT b at').2 = L := ⟨_, rfl⟩
      rw [hL] at hd2 htl
      obtain ⟨⟨d, l', y⟩, htk⟩ : ∃ t, tokOf b at' (longT b at') = t := ⟨_, rfl⟩
      rw [htk] at hd1 htl hsh
      simp only at htl
      subst htl
      obtain ⟨ad, hAd, x0, x1, x2⟩ := (R1.out.below hbel).2 k hlt2
      subst hAd
      rw [hd1] at x0 x1 x2
      simp only at x0 x1 x2
      obtain ⟨hok, s1, s2, s3, s4⟩ := hsh
      simp only at s1 s2 s3 s4
      simp only [Int.toNat_natCast] at s4
      have HC := Lib.hid (show checkT (d, (L : Int), y) = 0 by rw [checkT, if_pos hok])
      have Hd2 := Lib.hid hd2
      have hL2 := (ok_len hok).2.1
      simp only at hL2
      have S4 := Lib.hid s4
      have b1w : Below w.heap.size w (wr.alloc (tO d L y)) := (b01.trans (hbel.mono b01.size)).alloc (by have := b01.size; omega) _
      have hbel2 : Below w1.heap.size w1 (wr.alloc (tO d L y)) := hbel.alloc hsr _
      have RBw := Lib.hid (RB.out _ b1w)
      have y0 := cell_old (tO d L y) x0
      have y1 := cell_old (tO d L y) x1
      clear hd hd1 hd2 htk s4 hok hL
      go_wp2_with (first | (go_at_call 18; refine (rcheck_any d L y _).mono ?_; rintro e w' ⟨rfl, rfl⟩; rw [HC.out]) | fail)
      obtain ⟨W, hW⟩ : ∃ W, wr.alloc (tO d L y) = W := ⟨_, rfl⟩
      rw [hW] at y0 y1 RBw b1w hbel2
      first | rw [hW] | skip
      clear hW x0 x1 x2
      have a1 : IntKind.i64.wrap ((at' : Int) + (L : Int)) = (at' : Int) + L := wrap_in _ (by omega)
      have n1 : ((at' : Int) + (L : Int)).toNat = at' + L := by omega
      rcases s3 with rfl | ⟨s5, s6⟩
      · have e1 : decide ((0 : Int) < 0) = false := by decide
        go_quiet (fail)
        go_wp2
        go_roundg (T.length - (k + 1))
        case rel => exact ⟨k + 1, at' + L, rfl, by omega, by omega, by go_num, by go_num, Hd2.out, by repeat first | exact hbel2 | exact below_dr hbel2 _⟩
        case measure => omega
      · have e1 : decide (0 < d) = true := by simp; omega
        by_cases hL258 : L < 258
        · have e2 : decide ((L : Int) < 258) = true := by simp; omega
          by_cases hend : at' + L < b.length
          · have e3 : decide ((at' : Int) + L < b.length) = true := by simp; omega
            obtain ⟨dn, rfl⟩ := Int.eq_ofNat_of_zero_le (show 0 ≤ d by omega)
            have e1' : decide (0 < dn) = true := by simp; omega
            have hne := S4.out (by omega) (by omega) hend
            simp only [Int.toNat_natCast] at hne
            rw [List.getElem?_eq_getElem hend, List.getElem?_eq_getElem (show at' + L - dn < b.length by omega)] at hne
            have e4 : decide ((at' : Int) + L < (dn : Int)) = false := by simp; omega
            obtain ⟨bd, hBd, z1⟩ := RdB.at' RBw.out (at' + L) hend
            obtain ⟨bd', e, z2⟩ := RdB.at' RBw.out (at' + L - dn) (by omega)
            subst hBd
            cases e
            generalize b[at' + L] = X at *
            generalize b[at' + L - dn] = Y at *
            have e5 : ((X.toNat : Int) == (Y.toNat : Int)) = false := ne_nat (fun h => hne (by rw [h]))
            have a2 : IntKind.i64.wrap ((at' : Int) + (L : Int) - (dn : Int)) = (at' : Int) + L - dn := wrap_in _ (by omega)
            have n2 : ((at' : Int) + (L : Int) - (dn : Int)).toNat = at' + L - dn := by omega
            have p2 : 0 ≤ (at' : Int) + (L : Int) - (dn : Int) := by omega
            have p3 : (at' : Int) + (L : Int) - (dn : Int) < b.length := by omega
            clear hne
            go_quiet (fail)
            go_wp2
            go_roundg (T.length - (k + 1))
            case rel => exact ⟨k + 1, at' + L, rfl, by omega, by omega, by go_num, by go_num, Hd2.out, by repeat first | exact hbel2 | exact below_dr hbel2 _⟩
            case measure => omega
          · have e3 : decide ((at' : Int) + L < b.length) = false := by simp; omega
            go_quiet (fail)
            go_wp2
            go_roundg (T.length - (k + 1))
            case rel => exact ⟨k + 1, at' + L, rfl, by omega, by omega, by go_num, by go_num, Hd2.out, by repeat first | exact hbel2 | exact below_dr hbel2 _⟩
            case measure => omega
        · have e2 : decide ((L : Int) < 258) = false := by simp; omega
          go_quiet (fail)
          go_wp2
          go_roundg (T.length - (k + 1))
          case rel => exact ⟨k + 1, at' + L, rfl, by omega, by omega, by go_num, by go_num, Hd2.out, by repeat first | exact hbel2 | exact below_dr hbel2 _⟩
          case measure => omega
    · have e : at' = b.length := by
        rw [List.drop_eq_nil_of_le (by omega)] at hd
        rcases Nat.lt_or_ge at' b.length with h | h
        · rw [toks_cons b at' h] at hd; cases hd
        · omega
      subst e
      go_wp2
      go_ret
      exact ⟨rfl, b01.trans (hbel.mono b01.size)⟩
end Go.Proofs.Ytebmnfffmpiceaa
