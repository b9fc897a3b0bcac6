import Derived.Test.YtjaakhjfpigdfaaF3
import Derived.Test.YtjaakhjfpigdfaaD5
import Derived.Laws.Strings3
import Derived.Deep.CutRange
/-! MacSums. -/
namespace Go.Proofs.Ytjaakhjfpigdfaa
open Go.RowKit
set_option linter.unusedVariables false
set_option linter.unusedSimpArgs false
set_option maxRecDepth 100000 in
set_option maxHeartbeats 8000000 in
theorem macSums_true (k : By) (A0 : Option Addr) (c0 : Nat) (p : By) (A1 : Option Addr) (c1 : Nat) (q : By) (A2 : Option Addr) (c2 : Nat) (s : ByteArray) (x : BitVec 64) (w : World)
    (hr : RdB w A0 k) (hc : k.length ≤ c0) (y0 : k.length * 1 ≤ 140737488351232) (hn : A0 = none → c0 = 0)
    (hr1 : RdB w A1 p) (hc1 : p.length ≤ c1) (y1 : p.length * 1 ≤ 140737488351232) (hn1 : A1 = none → c1 = 0)
    (hr2 : RdB w A2 q) (hc2 : q.length ≤ c2) (y2 : q.length * 1 ≤ 140737488351232) (hn2 : A2 = none → c2 = 0) (hs : s.size ≤ 140737488351232) :
    Calls Try.prog 11 #[.slice A0 k.length c0, .slice A1 p.length c1, .slice A2 q.length c2, .string s, .int .u64 (x.toNat : Int)] w fun e w' => e = .returned (.bool true) ∧ Below w.heap.size w w' := by
  have hEk : EqN w k (.slice A0 k.length c0) := ⟨A0, c0, rfl, hc, hr, hn⟩
  have hEp : EqN w p (.slice A1 p.length c1) := ⟨A1, c1, rfl, hc1, hr1, hn1⟩
  have hEq : EqN w q (.slice A2 q.length c2) := ⟨A2, c2, rfl, hc2, hr2, hn2⟩
  obtain ⟨kv0, hkv0⟩ : ∃ v, Value.slice A0 k.length c0 = v := ⟨_, rfl⟩
  obtain ⟨pv0, hpv0⟩ : ∃ v, Value.slice A1 p.length c1 = v := ⟨_, rfl⟩
  obtain ⟨qv0, hqv0⟩ : ∃ v, Value.slice A2 q.length c2 = v := ⟨_, rfl⟩
  rw [hkv0] at hEk ⊢
  rw [hpv0] at hEp ⊢
  rw [hqv0] at hEq ⊢
  have HC1 := Lib.hid (cut4_any k kv0 w hEk)
  have HC2 := Lib.hid (cut4_any p pv0 w hEp)
  have HC3 := Lib.hid (cut4_any q qv0 w hEq)
  obtain ⟨X, hX⟩ : ∃ X : Int, (x.toNat : Int) = X := ⟨_, rfl⟩
  rw [hX]
  have HX := Lib.hid hX
  have HSM := Lib.hid hs
  clear hkv0 hpv0 hqv0 hEk hEp hEq hr hc y0 hn hr1 hc1 y1 hn1 hr2 hc2 y2 hn2 hX hs
  go_enter Try.func11, Try.ntmps11
  go_wp2_with fail
  refine HC1.out.mono ?_
  rintro e w2 ⟨kv, rfl, hEk, rfl⟩
  have HKV := Lib.hid hEk
  clear hEk HC1
  go_wp2_with fail
  refine HC2.out.mono ?_
  rintro e w2 ⟨pv, rfl, hEp, rfl⟩
  have HPV := Lib.hid hEp
  clear hEp HC2
  go_wp2_with fail
  refine HC3.out.mono ?_
  rintro e w2 ⟨qv, rfl, hEq, rfl⟩
  have HQV := Lib.hid hEq
  clear hEq HC3
  have hkl : (k.take 2000).length ≤ 1000000 := by rw [List.length_take]; omega
  have hpl : (p.take 2000).length ≤ 2000 := by rw [List.length_take]; omega
  have hql : (q.take 2000).length ≤ 2000 := by rw [List.length_take]; omega
  obtain ⟨k2, hk2⟩ : ∃ q, k.take 2000 = q := ⟨_, rfl⟩
  obtain ⟨p2, hp2⟩ : ∃ q, p.take 2000 = q := ⟨_, rfl⟩
  obtain ⟨q2, hq2⟩ : ∃ r, q.take 2000 = r := ⟨_, rfl⟩
  rw [hk2] at hkl HKV
  rw [hp2] at HPV hpl
  rw [hq2] at HQV hql
  have HKL := Lib.hid hkl
  have HPL := Lib.hid hpl
  have HQL := Lib.hid hql
  clear hk2 hp2 hq2 hkl hpl hql
  go_upto_if 19 with (fail)
  go_cut [3] from 20 to 21 (fun v wx => ∃ s2 : ByteArray, s2.size ≤ 100000 ∧ v = .string s2 ∧ wx = w)
  case first =>
    by_cases hlt : 2000 < s.size
    · have hsl : (Instr.slice 9 (.string s) none (some (.int .i64 2000)) none).run Try.prog w = .ok (.string (s.extract 0 2000)) w := by
        rw [Go.run_slice_string_to_if w 9 s .i64 2000 Try.underlying9, if_pos (by omega)]; rfl
      have hdt : decide ((2000 : Int) < (s.size : Int)) = true := by simp; omega
      have hl2 : (2000 : Int) < (s.size : Int) := by omega
      go_wp2
      try rw [← hdt]
      go_meet
      case rel => exact ⟨_, by simp; omega, rfl, rfl⟩
    · --@i
      go_wp2
      go_meet
      case rel => exact ⟨s, by omega, rfl, rfl⟩
  case rest =>
    obtain ⟨s2, hs2, rfl, rfl⟩ := hcut
    have hdl := macL_len k2 (purB s2 x)
    have hde := fun (w' : World) (hb : Below wc.heap.size wc w') => derive_any k2 kv s2 x w' (HKV.out.below hb) HKL.out hs2
    have hrde := fun (w' : World) (hb : Below wc.heap.size wc w') => rderive_any k2 kv s2 x w' (HKV.out.below hb) HKL.out hs2
    obtain ⟨D, hD⟩ : ∃ D, macL k2 (purB s2 x) = D := ⟨_, rfl⟩
    rw [hD] at hdl
    rw [hD, HX.out] at hde
    rw [hD, HX.out] at hrde
    have HED := Lib.hid (fun w => eq_dig 25 Try.underlying25 D D hdl hdl w)
    rw [show (D == D) = true by simp] at HED
    have HDE := Lib.hid hde
    have HRDE := Lib.hid hrde
    clear hdl hde hrde hD hs2
    go_upto_region 4 with (fail)
    obtain ⟨B1, d1, hpv, _, _, _⟩ := HPV.out
    obtain ⟨B2, d2, hqv, _, _, _⟩ := HQV.out
    obtain ⟨np, hnp⟩ : ∃ n, p2.length = n := ⟨_, rfl⟩
    obtain ⟨nq, hnq⟩ : ∃ n, q2.length = n := ⟨_, rfl⟩
    rw [hnp] at hpv
    rw [hnq] at hqv
    subst hpv hqv
    clear hnp hnq
    have hb1 : Below wc.heap.size wc (wc.alloc (.cells #[.slice B1 np d1, .slice B2 nq d2] 35)) := below_alloc1 _ _
    have hpq : ([p2, q2] : List By).flatten.length ≤ 1000000 := by have h1 := HPL.out; have h2 := HQL.out; simp; omega
    have S1 := msum_any k2 kv [p2, q2] ⟨wc.heap.size, 0, none⟩ 2 _ (HKV.out.below hb1) HKL.out (RdN.new2 wc p2 q2 (.slice B1 np d1) (.slice B2 nq d2) 35 (0, 0) _ rfl HPV.out HQV.out) (by simp) (by simp) hpq
    have S2 := Lib.hid (fun (w' : World) (hb : Below wc.heap.size wc w') => rmsum_any k2 kv [p2, q2] ⟨w'.heap.size, 0, none⟩ 2 _ ((HKV.out.below hb).below (below_alloc1 _ _)) HKL.out (RdN.new2 w' p2 q2 (.slice B1 np d1) (.slice B2 nq d2) 35 (0, 0) _ rfl (HPV.out.below hb) (HQV.out.below hb)) (by simp) (by simp) hpq)
    have hml := macL_len k2 ([p2, q2] : List By).flatten
    obtain ⟨Z, hZ⟩ : ∃ Z, macL k2 ([p2, q2] : List By).flatten = Z := ⟨_, rfl⟩
    rw [hZ] at hml S1 S2
    have HEQ := Lib.hid (fun w => eq_dig 25 Try.underlying25 Z Z hml hml w)
    rw [show (Z == Z) = true by simp] at HEQ
    have HS1 := Lib.hid S1
    clear hb1 hpq hml hZ S1
    go_wp2_with fail
    refine HS1.out.mono ?_
    rintro e w3 ⟨rfl, hb3⟩
    have hb3' : Below wc.heap.size wc w3 := (below_alloc1 _ _).trans (hb3.mono (by rw [size_alloc]; omega))
    have HB3 := Lib.hid hb3'
    have HS2 := Lib.hid (S2.out w3 hb3')
    clear hb3 hb3' HS1 S2
    go_wp2_with fail
    refine HS2.out.mono ?_
    rintro e w4 ⟨rfl, hb4⟩
    have hb4' : Below wc.heap.size wc w4 := HB3.out.trans ((below_alloc1 _ _).trans (hb4.mono (by rw [size_alloc]; omega)) |>.mono HB3.out.size)
    have HB4 := Lib.hid hb4'
    have heq := HEQ.out w4
    clear hb4 hb4' HS2 HB3
    go_wp2_with fail
    clear heq HEQ
    refine (HDE.out w4 HB4.out).mono ?_
    rintro e w5 ⟨rfl, hb5⟩
    have HB5 := Lib.hid (HB4.out.trans (hb5.mono HB4.out.size))
    clear hb5 HB4
    go_wp2_with fail
    refine (HRDE.out w5 HB5.out).mono ?_
    rintro e w6 ⟨rfl, hb6⟩
    have HB6 := Lib.hid (HB5.out.trans (hb6.mono HB5.out.size))
    have heq := HED.out w6
    clear hb6 HB5 HDE HRDE
    go_wp2_with fail
    clear heq HED
    refine (awake4_any w6).mono ?_
    rintro e w7 ⟨rfl, hb7⟩
    have HB7 := Lib.hid (HB6.out.trans (hb7.mono HB6.out.size))
    clear hb7 HB6
    go_wp2
    go_ret
    exact ⟨rfl, HB7.out⟩
end Go.Proofs.Ytjaakhjfpigdfaa
