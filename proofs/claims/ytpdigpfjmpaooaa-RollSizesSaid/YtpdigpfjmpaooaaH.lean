import Derived.Test.YtpdigpfjmpaooaaG
/-! RollSizes. -/
namespace Go.Proofs.Ytpdigpfjmpaooaa
open Go.RowKit
set_option linter.unusedVariables false
set_option linter.unusedSimpArgs false
/-- What holds of the chunks' sizes. -/
theorem cutsF_sizes (le mo bi : Int) (hok : okC le mo bi) : ∀ (f : Nat) (l : List (BitVec 8)), l.length ≤ f → (∀ x ∈ cutsF le mo bi f l, 1 ≤ x ∧ (x : Int) ≤ mo) ∧ (∀ i (y : Nat), i + 1 < (cutsF le mo bi f l).length → (cutsF le mo bi f l)[i]? = some y → le ≤ (y : Int)) ∧ (cutsF le mo bi f l).sum = l.length
  | 0, l, hl => by
    obtain rfl : l = [] := List.eq_nil_of_length_eq_zero (by omega)
    exact ⟨by simp [cutsF], fun i y h => by simp [cutsF] at h, rfl⟩
  | f + 1, [], hl => ⟨by simp [cutsF], fun i y h => by simp [cutsF] at h, rfl⟩
  | f + 1, x :: l, hl => by
    have hp := nextL_pos le mo bi hok (x :: l) (by simp)
    obtain ⟨h1, h2, h3, h4, h5⟩ := id hok
    have hb := nextL_bounds le mo bi hok (x :: l) 0 0 (by simp; omega)
    unfold cutsF
    generalize nextL le mo bi (x :: l) 0 0 = N at *
    have hd : ((x :: l).drop N.1).length = (x :: l).length - N.1 := List.length_drop
    obtain ⟨a, b, c⟩ := cutsF_sizes le mo bi hok f ((x :: l).drop N.1) (by rw [hd]; simp at hl ⊢; omega)
    refine ⟨?_, ?_, ?_⟩
    · intro y hy
      rcases List.mem_cons.1 hy with rfl | hy
      · exact ⟨hp.1, hb.2.2.1⟩
      · exact a y hy
    · intro i y hi hy
      cases i with
      | zero =>
        obtain rfl : N.1 = y := by simpa using hy
        cases hN : N.2 with
        | true => exact (hb.2.2.2.1 hN).1
        | false =>
          have hall := hb.2.2.2.2 hN
          exfalso
          have e0 : (x :: l).drop N.1 = [] := List.eq_nil_of_length_eq_zero (by rw [hd]; omega)
          rw [e0] at hi
          cases f <;> simp [cutsF] at hi
      | succ i =>
        exact b i y (by simpa using hi) (by simpa using hy)
    · rw [List.sum_cons, c, hd]; omega
theorem sum_take (l : List Nat) (k : Nat) (hk : k < l.length) : (l.take (k + 1)).sum = (l.take k).sum + l[k] := by
  rw [List.take_succ_eq_append_getElem hk, List.sum_append]; simp
theorem sum_take_le (l : List Nat) (k : Nat) : (l.take k).sum ≤ l.sum := by
  conv => rhs; rw [← List.take_append_drop k l]
  rw [List.sum_append]; omega
set_option maxRecDepth 100000 in
set_option maxHeartbeats 4000000 in
theorem rollSizes_any (le mo bi : Int) (l : List (BitVec 8)) (A : Option Addr) (cap : Nat) (w : World) (_h1 : I64 le) (_h2 : I64 mo) (_h3 : I64 bi) (hr : RdB w A l) (hl : l.length ≤ cap) (_hs : l.length * 1 ≤ 140737488351232) :
    Calls Try.prog 4 #[confV le mo bi, .slice A l.length cap] w fun e w' => e = .returned (.bool true) ∧ Below w.heap.size w w' := by
  have hm := hr.1
  have CUT := fun w => cut_any l A cap w hl hm
  have hr2 := hr.take 8192
  have hl2 : (l.take 8192).length ≤ cap := by rw [List.length_take]; omega
  have hl3 : (l.take 8192).length ≤ 8192 := by rw [List.length_take]; omega
  generalize l.take 8192 = b at *
  have C1 := fun w hr => cuts_gen le mo bi b A cap w hr hl2
  replace CUT := Lib.hid CUT
  have REST : ∀ (wa : World), Below w.heap.size w wa → RdB wa A b := fun wa h => RdR.below (R' := EqB) hr2 h (fun _ _ h => h)
  replace REST := Lib.hid REST
  have b0 : Below w.heap.size w (w.alloc (confO le mo bi)) := (Below.refl _ _).alloc (Nat.le_refl _) _
  clear hr hr2 hl hm _hs
  by_cases hok : okC le mo bi
  · have hE : cutsE le mo bi b = 0 := by unfold cutsE; rw [if_pos hok, if_neg (by omega)]
    have hV : cutsV le mo bi b = cutsF le mo bi b.length b := by rw [cutsV, if_pos hE]; rfl
    obtain ⟨z1, z2, z3⟩ := cutsF_sizes le mo bi hok b.length b (Nat.le_refl _)
    rw [hE, hV] at C1
    generalize cutsF le mo bi b.length b = V at *
    replace C1 := Lib.hid C1
    have Z1 := Lib.hid z1
    have Z2 := Lib.hid z2
    have Z3 := Lib.hid z3
    clear z1 z2 z3 hE hV hok
    go_enter Try.func4, Try.ntmps4
    go_wp2_with (first | (go_at_call 15; refine (awake_any _).mono ?_; rintro e w0 ⟨rfl, ba⟩; have bba := b0.trans (ba.mono b0.size); have d0 := keepB ba (show (w.alloc (confO le mo bi)).cell? ⟨w.heap.size, 0, none⟩ = some (.int .i64 le) by simp [go_sem]); have d1 := keepB ba (show (w.alloc (confO le mo bi)).cell? ⟨w.heap.size, 1, none⟩ = some (.int .i64 mo) by simp [go_sem]); have d2 := keepB ba (show (w.alloc (confO le mo bi)).cell? ⟨w.heap.size, 2, none⟩ = some (.int .i64 bi) by simp [go_sem])) | (go_at_call 10; refine (CUT.out _).mono ?_; rintro e w' ⟨rfl, rfl⟩) | (go_at_call 13; refine (C1.out _ (REST.out _ bba)).mono ?_; rintro e w3 ⟨B3, c3, rfl, hc3, r3, b3⟩; have bb3 := bba.trans (b3.mono bba.size); have f0 := keepB b3 d0; have f1 := keepB b3 d1; have f2 := keepB b3 d2))
    have hVm := r3.1
    have HA := Lib.hid r3
    have s3 := bb3.size
    go_loopw [7, 8] (fun n i wr => ∃ k : Nat, k ≤ V.length ∧ i = .int .i64 k ∧ n = .int .i64 ((V.take k).sum : Nat) ∧ Below w3.heap.size w3 wr) (fun _ i _ => V.length - (intOf i).toNat)
    case atStart => exact ⟨0, Nat.zero_le _, rfl, rfl, Below.refl _ _⟩
    case round =>
      obtain ⟨k, hk, rfl, rfl, hbel⟩ := hrel
      have g0 := keepB hbel f0
      have g1 := keepB hbel f1
      have g2 := keepB hbel f2
      by_cases hlt2 : k < V.length
      · have h3 : RdR (fun x v => v = Value.int .i64 ((x : Nat) : Int)) wr B3 V := RdR.below HA.out hbel (fun _ _ h => h)
        obtain ⟨ad, va, hA, ca, rfl⟩ := h3.2 k hlt2
        have hx1 := Z1.out V[k] (List.getElem_mem hlt2)
        have hsum := sum_take V k hlt2
        have hle := sum_take_le V (k + 1)
        rw [Z3.out] at hle
        have hx2 := fun h => Z2.out k V[k] h (List.getElem?_eq_getElem hlt2)
        generalize V[k] = X at *
        generalize (V.take k).sum = S at *
        have Hsum := Lib.hid hsum
        have hS : S + X ≤ 8192 := by omega
        obtain ⟨hx1, hxm⟩ := hx1
        have i1 : (decide ((X : Int) < 1)) = false := by simp; omega
        have i2 : (decide (mo < (X : Int))) = false := by simp; omega
        have i1' : ¬ ((X : Int) < 1) := by omega
        have i2' : ¬ (mo < (X : Int)) := by omega
        subst hA
        clear h3 hsum hle
        by_cases hlast : k + 1 < V.length
        · have hxl := hx2 hlast
          have hlast' : (k : Int) + 1 < V.length := by omega
          clear hx2
          go_wp2
          go_quiet (fail)
          go_wp2
          go_roundw
          case rel => exact ⟨k + 1, by omega, by go_num, by rw [Hsum.out]; go_num, by repeat first | exact hbel | refine below_dr ?_ _⟩
          case measure => simp [intOf]; omega
        · have hlast' : ¬ ((k : Int) + 1 < V.length) := by omega
          have i4 : (decide ((k : Int) + 1 < (V.length : Int))) = false := by simp; omega
          have i5 : (V.length : Int) ≤ (k : Int) + 1 := by omega
          clear hx2 hlast
          go_wp2
          go_quiet (fail)
          go_wp2
          go_roundw
          case rel => exact ⟨k + 1, by omega, by go_num, by rw [Hsum.out]; go_num, by repeat first | exact hbel | refine below_dr ?_ _⟩
          case measure => simp [intOf]; omega
      · obtain rfl : k = V.length := by omega
        rw [List.take_length, Z3.out]
        go_wp2
        go_ret
        exact ⟨by simp, bb3.trans (hbel.mono s3)⟩
  · have hE : cutsE le mo bi b = 80 := by unfold cutsE; rw [if_neg hok]
    have hV : cutsV le mo bi b = [] := by rw [cutsV, if_neg (by rw [hE]; decide)]
    have hC : checkC le mo bi = 80 := by rw [checkC, if_neg hok]
    rw [hE, hV] at C1
    replace C1 := Lib.hid C1
    have HC := Lib.hid hC
    clear hE hV hok hC
    go_enter Try.func4, Try.ntmps4
    go_wp2_with (first | (go_at_call 15; refine (awake_any _).mono ?_; rintro e w0 ⟨rfl, ba⟩; have bba := b0.trans (ba.mono b0.size); have d0 := keepB ba (show (w.alloc (confO le mo bi)).cell? ⟨w.heap.size, 0, none⟩ = some (.int .i64 le) by simp [go_sem]); have d1 := keepB ba (show (w.alloc (confO le mo bi)).cell? ⟨w.heap.size, 1, none⟩ = some (.int .i64 mo) by simp [go_sem]); have d2 := keepB ba (show (w.alloc (confO le mo bi)).cell? ⟨w.heap.size, 2, none⟩ = some (.int .i64 bi) by simp [go_sem])) | (go_at_call 10; refine (CUT.out _).mono ?_; rintro e w' ⟨rfl, rfl⟩) | (go_at_call 13; refine (C1.out _ (REST.out _ bba)).mono ?_; rintro e w3 ⟨B3, c3, rfl, hc3, r3, b3⟩; have bb3 := bba.trans (b3.mono bba.size); have f0 := keepB b3 d0; have f1 := keepB b3 d1; have f2 := keepB b3 d2) | (go_at_call 16; refine (rcheck_any le mo bi _).mono ?_; rintro e w' ⟨rfl, rfl⟩; rw [HC.out]))
    go_ret
    exact ⟨by simp, bb3.alloc bb3.size _⟩
end Go.Proofs.Ytpdigpfjmpaooaa
