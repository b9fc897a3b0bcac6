import Derived.Test.YtjaakhjfpigdfaaR3
import Derived.Deep.CutRange
/-! ShaCuts. -/
namespace Go.Proofs.Ytjaakhjfpigdfaa
open Go.RowKit
set_option linter.unusedVariables false
set_option linter.unusedSimpArgs false
theorem EqN.cut {w : World} {p : By} {A : Option Addr} {c : Nat} (h : EqN w p (.slice A p.length c)) (k n : Nat) (hk : k + n ≤ p.length) : EqN w ((p.drop k).take n) (.slice (if c = k then A else A.map fun x => x.add k) n (c - k)) := by
  obtain ⟨A', c', e, hl, hr, hnil⟩ := h
  simp only [Value.slice.injEq] at e
  obtain ⟨rfl, _, rfl⟩ := e
  have e2 : ((p.drop k).take n).length = n := by rw [List.length_take, List.length_drop]; omega
  have hd := (hr.drop k c (by omega) hl).take n
  refine ⟨_, c - k, by rw [e2], by omega, hd, fun h0 => ?_⟩
  by_cases h1 : c = k
  · omega
  · rw [if_neg h1] at h0
    cases A with
    | none => have := hnil rfl; omega
    | some a => cases h0
set_option maxRecDepth 100000 in
theorem run_cut (A : Option Addr) (n c k m : Nat) (hk : k ≤ m) (hm : m ≤ c) (w : World) : (Instr.sliceAt 35 (.slice A n c) (some (.int .i64 (k : Int))) (some (.int .i64 (m : Int))) none).run Try.prog w = .ok (.slice (if c = k then A else A.map fun x => x.add k) (m - k) (c - k)) w := by
  have h0 : (0 : Int) ≤ (k : Int) := by omega
  have h1 : (k : Int) ≤ (m : Int) := by omega
  have h2 : (m : Int) ≤ (c : Int) := by omega
  rw [run_sliceAt_slice w 35 _ _ _ _ Try.underlying35]
  rw [run_slice_lh w 35 A n c Try.underlying35 .i64 .i64 k m h0 h1 h2]
  simp [go_sem, Try.underlying35]
set_option maxRecDepth 100000 in
theorem run_from (A : Option Addr) (n c k : Nat) (hk : k ≤ n) (hm : n ≤ c) (w : World) : (Instr.sliceAt 35 (.slice A n c) (some (.int .i64 (k : Int))) none none).run Try.prog w = .ok (.slice (if c = k then A else A.map fun x => x.add k) (n - k) (c - k)) w := by
  have h0 : (0 : Int) ≤ (k : Int) := by omega
  have h1 : (k : Int) ≤ (n : Int) := by omega
  rw [run_sliceAt_slice w 35 _ _ _ _ Try.underlying35]
  rw [run_slice_l w 35 A n c Try.underlying35 .i64 k h0 h1]
  simp [go_sem, Try.underlying35]
/-- The pieces that some cuts make: where they end; the pieces. -/
def cutAt (b : By) (cuts : By) : Nat → Nat
  | 0 => 0
  | i + 1 => cutAt b cuts i + min ((cuts.getD i 0).toNat % 70) (b.length - cutAt b cuts i)
theorem cutAt_le (b cuts : By) : ∀ i, cutAt b cuts i ≤ b.length
  | 0 => by simp [cutAt]
  | i + 1 => by have := cutAt_le b cuts i; rw [cutAt]; omega
def cutPs (b : By) (cuts : By) : Nat → List By
  | 0 => []
  | i + 1 => cutPs b cuts i ++ [(b.drop (cutAt b cuts i)).take (min ((cuts.getD i 0).toNat % 70) (b.length - cutAt b cuts i))]
theorem cutPs_len (b cuts : By) : ∀ i, (cutPs b cuts i).length = i
  | 0 => rfl
  | i + 1 => by rw [cutPs, List.length_append, cutPs_len b cuts i]; rfl
theorem cutPs_flat (b cuts : By) : ∀ i, (cutPs b cuts i).flatten = b.take (cutAt b cuts i)
  | 0 => by simp [cutPs, cutAt]
  | i + 1 => by
    rw [cutPs, List.flatten_append, cutPs_flat b cuts i, cutAt, List.take_add]
    simp
theorem sum_one (b : By) (A : Option Addr) (n c : Nat) (w : World) (h : EqN w b (.slice A n c)) (hl : b.length ≤ 600) : Calls Try.prog 25 #[.slice (some ⟨w.heap.size, 0, none⟩) 1 1] (w.alloc (.cells #[.slice A n c] 35)) fun e w' => e = .returned (.agg (V8 (sumL b))) ∧ Below w.heap.size w w' := by
  have hs := sum_any [b] (some ⟨w.heap.size, 0, none⟩) 1 _ (RdN.new1 w b _ 35 (0, 0) _ rfl h) (by simp) (by simp; omega)
  rw [show [b].flatten = b by simp] at hs
  refine hs.mono ?_
  rintro e w' ⟨rfl, hb⟩
  exact ⟨rfl, (below_alloc1 _ _).trans (hb.mono (by simp))⟩
set_option maxRecDepth 100000 in
set_option maxHeartbeats 8000000 in
theorem shaCuts_true (b0 : By) (A0 : Option Addr) (c0 : Nat) (cuts : By) (B : Option Addr) (d : Nat) (w : World) (hr0 : RdB w A0 b0) (hl0 : b0.length ≤ c0) (y0 : b0.length * 1 ≤ 140737488351232) (hn0 : A0 = none → c0 = 0) (hr : RdB w B cuts) (hd : cuts.length ≤ d) (y1 : cuts.length * 1 ≤ 140737488351232) : Calls Try.prog 5 #[.slice A0 b0.length c0, .slice B cuts.length d] w fun e w' => e = .returned (.bool true) ∧ Below w.heap.size w w' := by
  have hE0 : EqN w b0 (.slice A0 b0.length c0) := ⟨A0, c0, rfl, hl0, hr0, hn0⟩
  have hbl := hr0.1
  have hcl := hr.1
  replace hE0 := Lib.hid hE0
  replace hr := Lib.hid hr
  clear hr0 hn0 y0 y1
  go_enter Try.func5, Try.ntmps5
  go_upto_if 11 with (fail)
  go_cut [0] from 12 to 13 (fun v wx => ∃ n : Nat, n ≤ 600 ∧ n ≤ b0.length ∧ v = .slice A0 n c0 ∧ wx = w)
  case first =>
    by_cases h6 : 600 < b0.length
    · have hcI : (600 : Int) ≤ (c0 : Int) := by omega
      go_wp2
      go_meet
      case rel => exact ⟨600, by omega, by omega, rfl, rfl⟩
    · go_wp2
      go_meet
      case rel => exact ⟨b0.length, by omega, by omega, rfl, rfl⟩
  case rest =>
    obtain ⟨n, hn6, hnb, rfl, rfl⟩ := hcut
    have hE := hE0.out.take n hnb
    obtain ⟨b, hb⟩ : ∃ b, b0.take n = b := ⟨_, rfl⟩
    have hbn : b.length = n := by rw [← hb, List.length_take]; omega
    rw [hb] at hE
    rw [← hbn] at hE hn6 ⊢
    have hbc : b.length ≤ c0 := by omega
    replace hE := Lib.hid hE
    clear hE0 hb hbn hnb hl0 hbl
    go_wp2
    go_loopg [5, 6, 7] 200 (fun gk v5 v6 v7 wr => ∃ i : Nat, gk = 200 - i ∧ i ≤ 200 ∧ i ≤ cuts.length ∧ v7 = .int .i64 (i : Int) ∧ v6 = .int .i64 (cutAt b cuts i : Int) ∧ OwnP wc wr wc.heap.size v5 (cutPs b cuts i) ∧ Below wc.heap.size wc wr)
    case atStart => exact ⟨0, rfl, by omega, by omega, rfl, rfl, OwnP.nil _ _ _, Below.refl _ _⟩
    case round =>
      obtain ⟨i, rfl, hi, hi2, rfl, rfl, hown, hbel⟩ := hrel
      have hsz := hbel.size
      have hat := cutAt_le b cuts i
      by_cases hin : i < cuts.length ∧ i < 200
      · obtain ⟨hlt, h20⟩ := hin
        have d1 : decide ((i : Int) < (cuts.length : Int)) = true := by simp; omega
        · have d2 : decide ((i : Int) < 200) = true := by simp; omega
          obtain ⟨ad, rfl, hcell⟩ := RdB.at' hr.out i hlt
          have hx : cuts[i] = cuts.getD i 0 := by rw [List.getD_eq_getElem?_getD, List.getElem?_eq_getElem hlt]; rfl
          rw [hx] at hcell
          have hs1 : cutAt b cuts (i + 1) = cutAt b cuts i + min ((cuts.getD i 0).toNat % 70) (b.length - cutAt b cuts i) := rfl
          have hs2 : cutPs b cuts (i + 1) = cutPs b cuts i ++ [(b.drop (cutAt b cuts i)).take (min ((cuts.getD i 0).toNat % 70) (b.length - cutAt b cuts i))] := rfl
          obtain ⟨x, hx2⟩ : ∃ x, cuts.getD i 0 = x := ⟨_, rfl⟩
          rw [hx2] at hcell hs1 hs2
          obtain ⟨a, ha⟩ : ∃ a, cutAt b cuts i = a := ⟨_, rfl⟩
          rw [ha] at hat hs1 hs2 ⊢
          obtain ⟨m, hm⟩ : ∃ m, min (x.toNat % 70) (b.length - a) = m := ⟨_, rfl⟩
          rw [hm] at hs1 hs2
          have q0 : wr.cell? (ad.add i) = some (.int .u8 (x.toNat : Int)) := (hbel.cell (World.block_lt_of_cell? _ _ hcell)).trans hcell
          have hxl := x.isLt
          have hml : m ≤ b.length - a := by omega
          have hEC := hE.out.cut a m (by omega)
          have hcut := run_cut A0 b.length c0 a (a + m) (by omega) (by omega)
          rw [show ((a + m : Nat) : Int) = (a : Int) + (m : Int) by push_cast; rfl, show a + m - a = m by omega] at hcut
          obtain ⟨A2, hA2⟩ : ∃ A2, (if c0 = a then A0 else A0.map fun x => x.add a) = A2 := ⟨_, rfl⟩
          obtain ⟨C2, hC2⟩ : ∃ C2, c0 - a = C2 := ⟨_, rfl⟩
          rw [hA2, hC2] at hEC hcut
          have HEC := Lib.hid hEC
          obtain ⟨q, hq⟩ : ∃ q, x.toNat % 70 = q := ⟨_, rfl⟩
          obtain ⟨r, hrr⟩ : ∃ r, b.length - a = r := ⟨_, rfl⟩
          have e1 : (x.toNat : Int) % 70 = (q : Int) := by omega
          have e2 : (b.length : Int) - (a : Int) = (r : Int) := by omega
          rw [hq, hrr] at hm
          have HS1 := Lib.hid hs1
          have HS2 := Lib.hid hs2
          have HO := Lib.hid hown
          have HB := Lib.hid hbel
          have HPL := Lib.hid (cutPs_len b cuts i)
          have hiI : (i : Int) < (cuts.length : Int) := by omega
          have haI : (a : Int) ≤ (b.length : Int) := by omega
          have hq70 : q < 70 := by omega
          have hr600 : r ≤ 600 := by omega
          have ham : (a : Int) + (m : Int) ≤ 600 := by omega
          clear hx hx2 ha hs1 hs2 hown hbel hcell hA2 hC2 hEC hq hrr hml
          by_cases hqr : r < q
          · obtain rfl : r = m := by omega
            have hqI : (r : Int) < (q : Int) := by omega
            clear hm
            go_wp2_with (first | (at_builtin; refine wpList_append_row rfl (.tmp 35) (.tmp 42) rfl wc.heap.size u5 _ rfl (HO.out.below (below_alloc1 _ _)) wr.heap.size _ (.slice A2 r C2) rfl (cell_new wr _ 35 (0, 0) 0 _ rfl) HEC.out (by rw [HPL.out]; omega) (by simp; omega) ?_; intro v' w3 hown3 hb3; have HO3 := Lib.hid hown3; have HB3 := Lib.hid ((HB.out.alloc hsz _).trans hb3); clear hown3 hb3) | fail)
            go_roundg (200 - (i + 1))
            case measure => omega
            case rel => exact ⟨i + 1, rfl, by omega, by omega, by go_num, by rw [HS1.out]; go_num, by rw [HS2.out]; exact HO3.out, HB3.out⟩
          · obtain rfl : q = m := by omega
            have hqI : ¬ (r : Int) < (q : Int) := by omega
            clear hm
            go_wp2_with (first | (at_builtin; refine wpList_append_row rfl (.tmp 35) (.tmp 42) rfl wc.heap.size u5 _ rfl (HO.out.below (below_alloc1 _ _)) wr.heap.size _ (.slice A2 q C2) rfl (cell_new wr _ 35 (0, 0) 0 _ rfl) HEC.out (by rw [HPL.out]; omega) (by simp; omega) ?_; intro v' w3 hown3 hb3; have HO3 := Lib.hid hown3; have HB3 := Lib.hid ((HB.out.alloc hsz _).trans hb3); clear hown3 hb3) | fail)
            go_roundg (200 - (i + 1))
            case measure => omega
            case rel => exact ⟨i + 1, rfl, by omega, by omega, by go_num, by rw [HS1.out]; go_num, by rw [HS2.out]; exact HO3.out, HB3.out⟩
      · have dd : (¬ i < cuts.length ∧ decide ((i : Int) < (cuts.length : Int)) = false) ∨ (i < cuts.length ∧ ¬ i < 200 ∧ decide ((i : Int) < (cuts.length : Int)) = true ∧ decide ((i : Int) < 200) = false) := by
          simp only [decide_eq_true_eq, decide_eq_false_iff_not]; omega
        have HA := Lib.hid hat
        have HF := Lib.hid (cutPs_flat b cuts i)
        have HPL := Lib.hid (cutPs_len b cuts i)
        obtain ⟨a, ha⟩ : ∃ a, cutAt b cuts i = a := ⟨_, rfl⟩
        obtain ⟨ps, hps⟩ : ∃ ps, cutPs b cuts i = ps := ⟨_, rfl⟩
        rw [ha] at HA HF ⊢
        rw [hps] at HF HPL hown
        have hfrom := run_from A0 b.length c0 a HA.out hbc
        have hEC := hE.out.cut a (b.length - a) (by have := HA.out; omega)
        obtain ⟨A2, hA2⟩ : ∃ A2, (if c0 = a then A0 else A0.map fun x => x.add a) = A2 := ⟨_, rfl⟩
        obtain ⟨C2, hC2⟩ : ∃ C2, c0 - a = C2 := ⟨_, rfl⟩
        rw [hA2, hC2] at hEC hfrom
        obtain ⟨m, hm⟩ : ∃ m, b.length - a = m := ⟨_, rfl⟩
        rw [hm] at hEC hfrom
        obtain ⟨q, hq⟩ : ∃ q, (b.drop a).take m = q := ⟨_, rfl⟩
        have hfl : (ps ++ [q]).flatten = b := by
          rw [List.flatten_append, HF.out, ← hq, ← hm, List.take_of_length_le (l := b.drop a) (by simp)]
          simp
        have hql : q.length = m := by rw [← hq, List.length_take, List.length_drop]; omega
        rw [hq] at hEC
        have HEC := Lib.hid hEC
        obtain ⟨qs, hqs⟩ : ∃ qs, ps ++ [q] = qs := ⟨_, rfl⟩
        rw [hqs] at hfl
        have HFL := Lib.hid hfl
        have HO := Lib.hid hown
        have HB := Lib.hid hbel
        have haI : (a : Int) ≤ (b.length : Int) := by have := HA.out; omega
        have RDQ := Lib.hid (show ∀ w3 v', OwnP wc w3 wc.heap.size v' (ps ++ [q]) → Below wc.heap.size wc w3 → ∃ A c, v' = .slice A qs.length c ∧ qs.length ≤ c ∧ RdN w3 A qs from fun w3 v' h1 h2 => by rw [← hqs]; exact h1.rd h2)
        obtain ⟨Z, hZ⟩ : ∃ Z, sumL b = Z := ⟨_, rfl⟩
        have hl := sumL_len b
        rw [hZ] at hl
        have heq := fun w => eq_dig 25 Try.underlying25 Z Z hl hl w
        rw [show (Z == Z) = true by simp] at heq
        have HZ := Lib.hid hZ
        clear hEC hown hbel hfl hA2 hC2 ha hps hat hm hq HF HA hr hZ hin hqs hl
        rcases dd with ⟨hlt, d1⟩ | ⟨hlt, h20, d1, d2⟩
        all_goals
          go_wp2_with (first | (at_builtin; refine wpList_append_row rfl (.tmp 47) (.tmp 51) rfl wc.heap.size u5 _ rfl (HO.out.below (below_alloc1 _ _)) wr.heap.size _ (.slice A2 m C2) rfl (cell_new wr _ 35 (0, 0) 0 _ rfl) HEC.out (by rw [HPL.out]; omega) (by simp; omega) ?_; intro v' w3 hown3 hb3; have HB3 := Lib.hid ((HB.out.alloc hsz _).trans hb3); obtain ⟨A1, c1, rfl, hc1, hr1⟩ := RDQ.out _ _ hown3 HB3.out; clear hown3 hb3; have S1 := Lib.hid (sum_any qs A1 c1 w3 hr1 hc1 (by rw [HFL.out]; omega)); rw [HFL.out, HZ.out] at S1; clear hr1) | fail)
          refine S1.out.mono ?_
          rintro e w4 ⟨rfl, hb4⟩
          have HB4 := Lib.hid (HB3.out.trans (hb4.mono HB3.out.size))
          have S2 := Lib.hid (sum_one b _ _ _ w4 (hE.out.below HB4.out) hn6)
          rw [HZ.out] at S2
          clear hb4 HB3 S1
          go_wp2_with fail
          refine S2.out.mono ?_
          rintro e w5 ⟨rfl, hb5⟩
          have HB5 := Lib.hid (HB4.out.trans (hb5.mono HB4.out.size))
          have S3 := Lib.hid (sum_one b _ _ _ w5 (hE.out.below HB5.out) hn6)
          rw [HZ.out] at S3
          clear hb5 HB4 S2
          go_wp2_with fail
          refine S3.out.mono ?_
          rintro e w6 ⟨rfl, hb6⟩
          have HB6 := Lib.hid (HB5.out.trans (hb6.mono HB5.out.size))
          have S4 := Lib.hid (rof_any b _ w6 (hE.out.below HB6.out) (by omega))
          rw [HZ.out] at S4
          clear hb6 HB5 S3
          go_wp2_with fail
          refine S4.out.mono ?_
          rintro e w7 ⟨rfl, hb7⟩
          have HB7 := Lib.hid (HB6.out.trans (hb7.mono HB6.out.size))
          have AL := Lib.hid (alive_any w7)
          clear hb7 HB6 S4
          go_wp2_with (first | (go_at_call 27; refine AL.out.mono ?_; rintro e w8 ⟨rfl, hb8⟩) | fail)
          go_ret
          exact ⟨rfl, HB7.out.trans (hb8.mono HB7.out.size)⟩
end Go.Proofs.Ytjaakhjfpigdfaa
