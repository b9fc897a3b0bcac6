import Derived.Test.YtpdigpfjmpaooaaF
/-! RollCuts. -/
namespace Go.Proofs.Ytpdigpfjmpaooaa
open Go.RowKit
set_option linter.unusedVariables false
set_option linter.unusedSimpArgs false
def nextV (le mo bi : Int) (l : List (BitVec 8)) : Nat × Bool := if okC le mo bi then nextL le mo bi l 0 0 else (0, false)
def cutsE (le mo bi : Int) (l : List (BitVec 8)) : Int := if okC le mo bi then (if 1048576 < l.length then 2 else 0) else 80
def cutsV (le mo bi : Int) (l : List (BitVec 8)) : List Nat := if cutsE le mo bi l = 0 then cutsL le mo bi l else []
theorem next_gen (le mo bi : Int) (l : List (BitVec 8)) (A : Option Addr) (cap : Nat) (w : World) (hr : RdB w A l) (hl : l.length ≤ cap) :
    Calls Try.prog 11 #[confV le mo bi, .slice A l.length cap] w fun e w' => e = .returned (.tuple #[.int .i64 ((nextV le mo bi l).1 : Nat), .bool (nextV le mo bi l).2, .int .i64 (checkC le mo bi)]) ∧ Below w.heap.size w w' := by
  unfold nextV checkC
  by_cases h : okC le mo bi
  · rw [if_pos h, if_pos h]; exact next_any le mo bi l A cap w h hr hl
  · rw [if_neg h, if_neg h]; exact next_bad le mo bi _ w h
theorem rnext_gen (le mo bi : Int) (l : List (BitVec 8)) (A : Option Addr) (cap : Nat) (w : World) (hr : RdB w A l) (hl : l.length ≤ cap) :
    Calls Try.prog 12 #[confV le mo bi, .slice A l.length cap] w fun e w' => e = .returned (.tuple #[.int .i64 ((nextV le mo bi l).1 : Nat), .bool (nextV le mo bi l).2, .int .i64 (checkC le mo bi)]) ∧ Below w.heap.size w w' := by
  unfold nextV checkC
  by_cases h : okC le mo bi
  · rw [if_pos h, if_pos h]; exact rnextE_any le mo bi l A cap w h hr hl
  · rw [if_neg h, if_neg h]; exact rnext_bad le mo bi _ w h
theorem cuts_gen (le mo bi : Int) (l : List (BitVec 8)) (A : Option Addr) (cap : Nat) (w : World) (hr : RdB w A l) (hl : l.length ≤ cap) :
    Calls Try.prog 13 #[confV le mo bi, .slice A l.length cap] w fun e w' => ∃ B c, e = .returned (.tuple #[.slice B (cutsV le mo bi l).length c, .int .i64 (cutsE le mo bi l)]) ∧ (cutsV le mo bi l).length ≤ c ∧ RdR (fun x v => v = Value.int .i64 ((x : Nat) : Int)) w' B (cutsV le mo bi l) ∧ Below w.heap.size w w' := by
  have nil : ∀ w' : World, RdR (fun (x : Nat) v => v = Value.int .i64 ((x : Nat) : Int)) w' none [] := fun w' => ⟨by simp, fun j hj => by simp at hj⟩
  by_cases h : okC le mo bi
  · by_cases hn : 1048576 < l.length
    · have e : cutsE le mo bi l = 2 := by unfold cutsE; rw [if_pos h, if_pos hn]
      rw [cutsV, e, if_neg (by decide)]
      refine (cuts_long le mo bi A l.length cap w h hn).mono ?_
      rintro e w' ⟨rfl, hb⟩
      exact ⟨none, 0, rfl, by simp, nil w', hb⟩
    · have e : cutsE le mo bi l = 0 := by unfold cutsE; rw [if_pos h, if_neg hn]
      rw [cutsV, e, if_pos rfl]
      refine (cuts_ok le mo bi l A cap w h hr hl (by omega)).mono ?_
      rintro e w' ⟨v, rfl, own, hb⟩
      obtain ⟨B, c, rfl, hc, hrd⟩ := RdI.own own
      exact ⟨B, c, rfl, hc, hrd, hb⟩
  · have e : cutsE le mo bi l = 80 := by unfold cutsE; rw [if_neg h]
    rw [cutsV, e, if_neg (by decide)]
    refine (cuts_bad le mo bi _ w h).mono ?_
    rintro e w' ⟨rfl, hb⟩
    exact ⟨none, 0, rfl, by simp, nil w', hb⟩
theorem rcuts_gen (le mo bi : Int) (l : List (BitVec 8)) (A : Option Addr) (cap : Nat) (w : World) (hr : RdB w A l) (hl : l.length ≤ cap) :
    Calls Try.prog 14 #[confV le mo bi, .slice A l.length cap] w fun e w' => ∃ B c, e = .returned (.tuple #[.slice B (cutsV le mo bi l).length c, .int .i64 (cutsE le mo bi l)]) ∧ (cutsV le mo bi l).length ≤ c ∧ RdR (fun x v => v = Value.int .i64 ((x : Nat) : Int)) w' B (cutsV le mo bi l) ∧ Below w.heap.size w w' := by
  have nil : ∀ w' : World, RdR (fun (x : Nat) v => v = Value.int .i64 ((x : Nat) : Int)) w' none [] := fun w' => ⟨by simp, fun j hj => by simp at hj⟩
  by_cases h : okC le mo bi
  · by_cases hn : 1048576 < l.length
    · have e : cutsE le mo bi l = 2 := by unfold cutsE; rw [if_pos h, if_pos hn]
      rw [cutsV, e, if_neg (by decide)]
      refine (rcuts_long le mo bi A l.length cap w h hn).mono ?_
      rintro e w' ⟨rfl, hb⟩
      exact ⟨none, 0, rfl, by simp, nil w', hb⟩
    · have e : cutsE le mo bi l = 0 := by unfold cutsE; rw [if_pos h, if_neg hn]
      rw [cutsV, e, if_pos rfl]
      refine (rcuts_ok le mo bi l A cap w h hr hl (by omega)).mono ?_
      rintro e w' ⟨v, rfl, own, hb⟩
      obtain ⟨B, c, rfl, hc, hrd⟩ := RdI.own own
      exact ⟨B, c, rfl, hc, hrd, hb⟩
  · have e : cutsE le mo bi l = 80 := by unfold cutsE; rw [if_neg h]
    rw [cutsV, e, if_neg (by decide)]
    refine (rcuts_bad le mo bi _ w h).mono ?_
    rintro e w' ⟨rfl, hb⟩
    exact ⟨none, 0, rfl, by simp, nil w', hb⟩
theorem below_dr {B : Nat} {a w : World} (h : Below B a w) (n : Nat) : Below B a (w.drewN n) := ⟨h.os, h.tape, h.output, h.size, h.block⟩
set_option maxRecDepth 100000 in
set_option maxHeartbeats 4000000 in
/-- The law, the bytes being what they are behind the cut. -/
theorem rollCuts_any (le mo bi : Int) (l : List (BitVec 8)) (A : Option Addr) (cap : Nat) (w : World) (_h1 : I64 le) (_h2 : I64 mo) (_h3 : I64 bi) (hr : RdB w A l) (hl : l.length ≤ cap) (_hs : l.length * 1 ≤ 140737488351232) :
    Calls Try.prog 3 #[confV le mo bi, .slice A l.length cap] w fun e w' => e = .returned (.bool true) ∧ Below w.heap.size w w' := by
  have hm := hr.1
  have CUT := fun w => cut_any l A cap w hl hm
  obtain ⟨b, hb⟩ : ∃ b, (if l.length ≤ 1048576 then l.take 8192 else l) = b := ⟨_, rfl⟩
  have hb1 : b.length ≤ cap := by rw [← hb]; split <;> (try rw [List.length_take]) <;> omega
  have hbr : RdB w A b := by
    rw [← hb]; split
    · exact hr.take 8192
    · exact hr
  have N1 := fun w hr => next_gen le mo bi b A cap w hr hb1
  have N2 := fun w hr => rnext_gen le mo bi b A cap w hr hb1
  have C1 := fun w hr => cuts_gen le mo bi b A cap w hr hb1
  have C2 := fun w hr => rcuts_gen le mo bi b A cap w hr hb1
  generalize nextV le mo bi b = NV at *
  generalize checkC le mo bi = C at *
  generalize cutsE le mo bi b = E at *
  generalize cutsV le mo bi b = V at *
  replace CUT := Lib.hid CUT
  replace N1 := Lib.hid N1
  replace N2 := Lib.hid N2
  replace C1 := Lib.hid C1
  replace C2 := Lib.hid C2
  have hlen : ((V.length : Nat) : Int) = V.length := rfl
  clear hr
  have b0 : Below w.heap.size w (w.alloc (confO le mo bi)) := (Below.refl _ _).alloc (Nat.le_refl _) _
  have REST : ∀ (wa : World), Below w.heap.size w wa → RdB wa A b := fun wa h => RdR.below (R' := EqB) hbr h (fun _ _ h => h)
  replace REST := Lib.hid REST
  by_cases hlt : l.length ≤ 1048576
  · rw [if_pos hlt] at hb
    rw [hb] at CUT
    clear hb hbr
    go_enter Try.func3, Try.ntmps3
    go_wp2_with (first | (go_at_call 10; refine (CUT.out _).mono ?_; rintro e w' ⟨rfl, rfl⟩) | (go_at_call 11; refine (N1.out _ (REST.out _ b0)).mono ?_; rintro e w1 ⟨rfl, b1⟩; have bb1 := b0.trans (b1.mono b0.size); have d0 := keepB b1 (show (w.alloc (confO le mo bi)).cell? ⟨w.heap.size, 0, none⟩ = some (.int .i64 le) by simp [go_sem]); have d1 := keepB b1 (show (w.alloc (confO le mo bi)).cell? ⟨w.heap.size, 1, none⟩ = some (.int .i64 mo) by simp [go_sem]); have d2 := keepB b1 (show (w.alloc (confO le mo bi)).cell? ⟨w.heap.size, 2, none⟩ = some (.int .i64 bi) by simp [go_sem])) | (go_at_call 12; refine (N2.out _ (REST.out _ bb1)).mono ?_; rintro e w2 ⟨rfl, b2⟩; have bb2 := bb1.trans (b2.mono bb1.size); have e0 := keepB b2 d0; have e1 := keepB b2 d1; have e2 := keepB b2 d2) | (go_at_call 13; refine (C1.out _ (REST.out _ bb2)).mono ?_; rintro e w3 ⟨B3, c3, rfl, hc3, r3, b3⟩; have bb3 := bb2.trans (b3.mono bb2.size); have f0 := keepB b3 e0; have f1 := keepB b3 e1; have f2 := keepB b3 e2) | (go_at_call 14; refine (C2.out _ (REST.out _ bb3)).mono ?_; rintro e w4 ⟨B4, c4, rfl, hc4, r4, b4⟩; have bb4 := bb3.trans (b4.mono bb3.size)))
    have hV := r3.1
    have HA := Lib.hid r3
    have HB := Lib.hid r4
    have s4 := bb4.size
    go_loopw [15] (fun i wr => ∃ k : Nat, k ≤ V.length ∧ i = .int .i64 k ∧ Below w4.heap.size w4 wr) (fun i _ => V.length - (intOf i).toNat)
    case atStart => exact ⟨0, Nat.zero_le _, rfl, Below.refl _ _⟩
    case round =>
      obtain ⟨k, hk, rfl, hbel⟩ := hrel
      by_cases hlt2 : k < V.length
      · have h3 : RdR (fun x v => v = Value.int .i64 ((x : Nat) : Int)) wr B3 V := RdR.below (RdR.below HA.out b4 (fun _ _ h => h)) hbel (fun _ _ h => h)
        have h4 : RdR (fun x v => v = Value.int .i64 ((x : Nat) : Int)) wr B4 V := RdR.below HB.out hbel (fun _ _ h => h)
        obtain ⟨ad, va, hA, ca, rfl⟩ := h3.2 k hlt2
        obtain ⟨bd, vb, hB, cb, rfl⟩ := h4.2 k hlt2
        generalize V[k] = X at ca cb
        subst hA hB
        clear h3 h4
        have e2 : ((X : Int) != (X : Int)) = false := by simp
        go_wp2
        go_quiet (fail)
        go_wp2
        go_roundw
        case rel => exact ⟨k + 1, by omega, by go_num, by repeat first | exact hbel | refine below_dr ?_ _⟩
        case measure => simp [intOf]; omega
      · go_wp2_with (go_at_call 15; refine (awake_any _).mono ?_; rintro e w5 ⟨rfl, b5⟩)
        go_ret
        have s5 := hbel.size
        exact ⟨rfl, bb4.trans ((hbel.mono s4).trans (b5.mono (by omega)))⟩
  · rw [if_neg hlt] at hb
    subst hb
    have hlt' : (1048576 : Int) < (l.length : Int) := by omega
    clear hbr
    go_enter Try.func3, Try.ntmps3
    go_wp2_with (first | (go_at_call 10; refine (CUT.out _).mono ?_; rintro e w' ⟨rfl, rfl⟩) | (go_at_call 11; refine (N1.out _ (REST.out _ b0)).mono ?_; rintro e w1 ⟨rfl, b1⟩; have bb1 := b0.trans (b1.mono b0.size); have d0 := keepB b1 (show (w.alloc (confO le mo bi)).cell? ⟨w.heap.size, 0, none⟩ = some (.int .i64 le) by simp [go_sem]); have d1 := keepB b1 (show (w.alloc (confO le mo bi)).cell? ⟨w.heap.size, 1, none⟩ = some (.int .i64 mo) by simp [go_sem]); have d2 := keepB b1 (show (w.alloc (confO le mo bi)).cell? ⟨w.heap.size, 2, none⟩ = some (.int .i64 bi) by simp [go_sem])) | (go_at_call 12; refine (N2.out _ (REST.out _ bb1)).mono ?_; rintro e w2 ⟨rfl, b2⟩; have bb2 := bb1.trans (b2.mono bb1.size); have e0 := keepB b2 d0; have e1 := keepB b2 d1; have e2 := keepB b2 d2) | (go_at_call 13; refine (C1.out _ (REST.out _ bb2)).mono ?_; rintro e w3 ⟨B3, c3, rfl, hc3, r3, b3⟩; have bb3 := bb2.trans (b3.mono bb2.size); have f0 := keepB b3 e0; have f1 := keepB b3 e1; have f2 := keepB b3 e2) | (go_at_call 14; refine (C2.out _ (REST.out _ bb3)).mono ?_; rintro e w4 ⟨B4, c4, rfl, hc4, r4, b4⟩; have bb4 := bb3.trans (b4.mono bb3.size)))
    have hV := r3.1
    have HA := Lib.hid r3
    have HB := Lib.hid r4
    have s4 := bb4.size
    go_loopw [15] (fun i wr => ∃ k : Nat, k ≤ V.length ∧ i = .int .i64 k ∧ Below w4.heap.size w4 wr) (fun i _ => V.length - (intOf i).toNat)
    case atStart => exact ⟨0, Nat.zero_le _, rfl, Below.refl _ _⟩
    case round =>
      obtain ⟨k, hk, rfl, hbel⟩ := hrel
      by_cases hlt2 : k < V.length
      · have h3 : RdR (fun x v => v = Value.int .i64 ((x : Nat) : Int)) wr B3 V := RdR.below (RdR.below HA.out b4 (fun _ _ h => h)) hbel (fun _ _ h => h)
        have h4 : RdR (fun x v => v = Value.int .i64 ((x : Nat) : Int)) wr B4 V := RdR.below HB.out hbel (fun _ _ h => h)
        obtain ⟨ad, va, hA, ca, rfl⟩ := h3.2 k hlt2
        obtain ⟨bd, vb, hB, cb, rfl⟩ := h4.2 k hlt2
        generalize V[k] = X at ca cb
        subst hA hB
        clear h3 h4
        have e2 : ((X : Int) != (X : Int)) = false := by simp
        go_wp2
        go_quiet (fail)
        go_wp2
        go_roundw
        case rel => exact ⟨k + 1, by omega, by go_num, by repeat first | exact hbel | refine below_dr ?_ _⟩
        case measure => simp [intOf]; omega
      · go_wp2_with (go_at_call 15; refine (awake_any _).mono ?_; rintro e w5 ⟨rfl, b5⟩)
        go_ret
        have s5 := hbel.size
        exact ⟨rfl, bb4.trans ((hbel.mono s4).trans (b5.mono (by omega)))⟩
end Go.Proofs.Ytpdigpfjmpaooaa
