import Derived.Test.YtebmnfffmpiceaaB
/-! How far two places are alike. -/
namespace Go.Proofs.Ytebmnfffmpiceaa
open Go.RowKit
set_option linter.unusedVariables false
set_option linter.unusedSimpArgs false
theorem reach_stop (b : By) (p q f k : Nat) (h : ¬ (q + k < b.length ∧ b[p + k]? = b[q + k]?)) : reachF b p q f k = k := by
  cases f with
  | zero => rfl
  | succ f => rw [reachF, if_neg h]
theorem reach_go (b : By) (p q k : Nat) (hk : k < 258) (h : q + k < b.length ∧ b[p + k]? = b[q + k]?) : reachF b p q (258 - k) k = reachF b p q (258 - (k + 1)) (k + 1) := by
  obtain ⟨f, hf⟩ : ∃ f, 258 - k = f + 1 := ⟨258 - k - 1, by omega⟩
  rw [hf, reachF, if_pos h]
  congr 1; omega
theorem wrap_in (n : Int) (h : -9223372036854775808 ≤ n ∧ n ≤ 9223372036854775807) : IntKind.i64.wrap n = n := IntWalk.i64_in _ h
theorem ne_nat {X Y : BitVec 8} (h : X ≠ Y) : ((X.toNat : Int) == (Y.toNat : Int)) = false := by
  rw [beq_eq_false_iff_ne]
  intro e
  exact h (BitVec.eq_of_toNat_eq (by omega))

set_option maxRecDepth 100000 in
set_option maxHeartbeats 4000000 in
theorem reach_any (b : By) (A : Option Addr) (cap p q : Nat) (w : World) (hr : RdB w A b) (hl : b.length ≤ cap) (hs : b.length ≤ 65536) (g : Nat) (c0 : w.cell? ⟨g, 0, none⟩ = some (.slice A b.length cap)) (hpq : p < q) (hq : q < b.length) :
    Calls Try.prog 29 #[.pointer (some ⟨g, 0, none⟩), .int .i64 p, .int .i64 q] w fun e w' => e = .returned (.int .i64 (reachN b p q : Nat)) ∧ Drawn w w' := by
  have hm := hr.1
  have Hr := Lib.hid hr
  have Hc := Lib.hid c0
  clear hr c0
  obtain ⟨T, hT⟩ : ∃ T, reachN b p q = T := ⟨_, rfl⟩
  rw [hT]
  have HT := Lib.hid hT
  clear hT
  go_enter Try.func29, Try.ntmps29
  go_wp2
  go_loopw [7] (fun n wr => ∃ k : Nat, k ≤ 258 ∧ q + k ≤ b.length ∧ n = .int .i64 k ∧ reachF b p q (258 - k) k = T ∧ Drawn w wr) (fun n _ => 258 - (intOf n).toNat)
  case atStart => exact ⟨0, by omega, by omega, rfl, HT.out, Drawn.refl w⟩
  case round =>
    obtain ⟨k, hk, hkl, rfl, hT, hd⟩ := hrel
    have c0 := hd.cell Hc.out
    have a1 : IntKind.i64.wrap ((q : Int) + (k : Int)) = (q : Int) + k := wrap_in _ (by omega)
    have a2 : IntKind.i64.wrap ((p : Int) + (k : Int)) = (p : Int) + k := wrap_in _ (by omega)
    have n1 : ((q : Int) + (k : Int)).toNat = q + k := by omega
    have n2 : ((p : Int) + (k : Int)).toNat = p + k := by omega
    by_cases h1 : k < 258
    · have hb1 : decide ((k : Int) < 258) = true := by simp; omega
      by_cases h2 : q + k < b.length
      · have hb2 : decide ((q : Int) + (k : Int) < (b.length : Int)) = true := by simp; omega
        have hrd : RdB wr A b := RdR.below (R' := EqB) Hr.out hd.below (fun _ _ h => h)
        obtain ⟨ad, hA, x1⟩ := hrd.at' (p + k) (by omega)
        obtain ⟨ad', e, x2⟩ := hrd.at' (q + k) h2
        have e' : ad = ad' := by rw [hA] at e; exact Option.some.inj e
        subst e' hA
        have eg := reach_go b p q k h1
        have es := reach_stop b p q (258 - k) k
        rw [List.getElem?_eq_getElem (by omega), List.getElem?_eq_getElem h2, Option.some.injEq] at eg es
        generalize b[p + k] = X at *
        generalize b[q + k] = Y at *
        have HT2 := Lib.hid hT
        have Heg := Lib.hid eg
        have Hes := Lib.hid es
        clear hT eg es e hrd
        by_cases hxy : X = Y
        · subst hxy
          go_wp2
          go_quiet (fail)
          clear a1 a2 n1 n2 hb1 hb2 
          go_wp2
          go_roundw
          case rel => exact ⟨k + 1, by omega, by omega, by go_num, by rw [← Heg.out ⟨h2, trivial⟩]; exact HT2.out, by repeat first | exact hd | refine Drawn.drewN ?_ _⟩
          case measure => simp [intOf]; omega
        · have hne := ne_nat hxy
          have hne' := ne_nat (Ne.symm hxy)
          go_wp2
          go_quiet (fail)
          clear a1 a2 n1 n2 hb1 hb2 
          go_wp2
          go_ret
          have e := HT2.out
          rw [Hes.out (fun h => hxy h.2)] at e
          subst e
          exact ⟨rfl, by repeat first | exact hd | refine Drawn.drewN ?_ _⟩
      · have es := reach_stop b p q (258 - k) k (fun h => h2 h.1)
        rw [es] at hT
        subst hT
        have hh : decide ((q : Int) + (k : Int) < (b.length : Int)) = false := by simp; omega
        clear es
        go_wp2
        go_quiet (fail)
        clear a1 a2 n1 n2 hh hb1 
        go_wp2
        go_ret
        exact ⟨rfl, by repeat first | exact hd | refine Drawn.drewN ?_ _⟩
    · obtain rfl : k = 258 := by omega
      have hb1 : decide ((258 : Int) < 258) = false := by decide
      have hT' : 258 = T := hT
      subst hT'
      clear hT
      go_wp2
      go_quiet (fail)
      clear a1 a2 n1 n2 hb1 
      go_wp2
      go_ret
      exact ⟨rfl, by repeat first | exact hd | refine Drawn.drewN ?_ _⟩
set_option maxRecDepth 100000 in
set_option maxHeartbeats 4000000 in
theorem rreach_any (b : By) (A : Option Addr) (cap p q : Nat) (w : World) (hr : RdB w A b) (hl : b.length ≤ cap) (hs : b.length ≤ 65536) (d : Nat) (hd0 : d = q - p)  (hpq : p < q) (hq : q < b.length) :
    Calls Try.prog 30 #[.slice A b.length cap, .int .i64 q, .int .i64 d] w fun e w' => e = .returned (.int .i64 (reachN b p q : Nat)) ∧ Drawn w w' := by
  have hm := hr.1
  have Hr := Lib.hid hr
  have Hd0 := Lib.hid hd0
  clear hr hd0
  obtain ⟨T, hT⟩ : ∃ T, reachN b p q = T := ⟨_, rfl⟩
  rw [hT]
  have HT := Lib.hid hT
  clear hT
  go_enter Try.func30, Try.ntmps30
  go_wp2
  go_loopw [7] (fun n wr => ∃ k : Nat, k ≤ 258 ∧ q + k ≤ b.length ∧ n = .int .i64 k ∧ reachF b p q (258 - k) k = T ∧ Drawn w wr) (fun n _ => 258 - (intOf n).toNat)
  case atStart => exact ⟨0, by omega, by omega, rfl, HT.out, Drawn.refl w⟩
  case round =>
    obtain ⟨k, hk, hkl, rfl, hT, hd⟩ := hrel
    have a1 : IntKind.i64.wrap ((q : Int) + (k : Int)) = (q : Int) + k := wrap_in _ (by omega)
    have a2 : IntKind.i64.wrap ((p : Int) + (k : Int)) = (p : Int) + k := wrap_in _ (by omega)
    have n1 : ((q : Int) + (k : Int)).toNat = q + k := by omega
    have n2 : ((p : Int) + (k : Int)).toNat = p + k := by omega
    have a3 : IntKind.i64.wrap ((q : Int) + (k : Int) - (d : Int)) = (p : Int) + k := by have := Hd0.out; rw [wrap_in _ (by omega)]; omega
    by_cases h1 : k < 258
    · have hb1 : decide ((k : Int) < 258) = true := by simp; omega
      by_cases h2 : q + k < b.length
      · have hb2 : decide ((q : Int) + (k : Int) < (b.length : Int)) = true := by simp; omega
        have hrd : RdB wr A b := RdR.below (R' := EqB) Hr.out hd.below (fun _ _ h => h)
        obtain ⟨ad, hA, x1⟩ := hrd.at' (p + k) (by omega)
        obtain ⟨ad', e, x2⟩ := hrd.at' (q + k) h2
        have e' : ad = ad' := by rw [hA] at e; exact Option.some.inj e
        subst e' hA
        have eg := reach_go b p q k h1
        have es := reach_stop b p q (258 - k) k
        rw [List.getElem?_eq_getElem (by omega), List.getElem?_eq_getElem h2, Option.some.injEq] at eg es
        generalize b[p + k] = X at *
        generalize b[q + k] = Y at *
        have HT2 := Lib.hid hT
        have Heg := Lib.hid eg
        have Hes := Lib.hid es
        clear hT eg es e hrd
        by_cases hxy : X = Y
        · subst hxy
          go_wp2
          go_quiet (fail)
          clear a1 a2 n1 n2 hb1 hb2 a3
          go_wp2
          go_roundw
          case rel => exact ⟨k + 1, by omega, by omega, by go_num, by rw [← Heg.out ⟨h2, trivial⟩]; exact HT2.out, by repeat first | exact hd | refine Drawn.drewN ?_ _⟩
          case measure => simp [intOf]; omega
        · have hne := ne_nat hxy
          have hne' := ne_nat (Ne.symm hxy)
          go_wp2
          go_quiet (fail)
          clear a1 a2 n1 n2 hb1 hb2 a3
          go_wp2
          go_ret
          have e := HT2.out
          rw [Hes.out (fun h => hxy h.2)] at e
          subst e
          exact ⟨rfl, by repeat first | exact hd | refine Drawn.drewN ?_ _⟩
      · have es := reach_stop b p q (258 - k) k (fun h => h2 h.1)
        rw [es] at hT
        subst hT
        have hh : decide ((q : Int) + (k : Int) < (b.length : Int)) = false := by simp; omega
        clear es
        go_wp2
        go_quiet (fail)
        clear a1 a2 n1 n2 hh hb1 a3
        go_wp2
        go_ret
        exact ⟨rfl, by repeat first | exact hd | refine Drawn.drewN ?_ _⟩
    · obtain rfl : k = 258 := by omega
      have hb1 : decide ((258 : Int) < 258) = false := by decide
      have hT' : 258 = T := hT
      subst hT'
      clear hT
      go_wp2
      go_quiet (fail)
      clear a1 a2 n1 n2 hb1 a3
      go_wp2
      go_ret
      exact ⟨rfl, by repeat first | exact hd | refine Drawn.drewN ?_ _⟩
end Go.Proofs.Ytebmnfffmpiceaa
