import Derived.Test.YtecaiaobbjddeaaU
import Derived.Test.YtecaiaobbjddeaaC
/-! WordBytes. -/
namespace Go.Proofs.Ytecaiaobbjddeaa
open Go.RowKit
set_option linter.unusedVariables false
set_option linter.unusedSimpArgs false
theorem words_gen (l : List (BitVec 8)) (A : Option Addr) (cap : Nat) (bits o : Int) (w : World) (hr : RdB w A l) (hl : l.length ≤ cap) (hs : l.length ≤ 400) :
    Calls Try.prog 25 #[.slice A l.length cap, .int .i64 bits, .int .i64 o] w fun e w' => ∃ v, e = .returned (.tuple #[v, .int .i64 (wordsE l bits o)]) ∧ RdU w' v (wordsV l bits o) ∧ Below w.heap.size w w' := by
  by_cases h : code bits o = 0
  · obtain ⟨⟨n, hn⟩, ho⟩ := code_zero bits o h
    obtain rfl : (bits / 8).toNat = n := by omega
    by_cases hz : l.length % (bits / 8).toNat = 0
    · have e : wordsE l bits o = 0 := by unfold wordsE; rw [if_pos h, if_neg (by omega)]
      rw [wordsV, e, if_pos rfl]
      exact words_ok l A cap _ bits o w hr hl hs hn ho hz
    · have e : wordsE l bits o = 11 := by unfold wordsE; rw [if_pos h, if_pos hz]
      rw [wordsV, e, if_neg (by decide)]
      refine (words_short A l.length cap _ bits o w hr.1 hn ho hz).mono ?_
      rintro e w' ⟨rfl, rfl⟩
      exact ⟨_, rfl, RdU.nil _, Below.refl _ _⟩
  · have e : wordsE l bits o = code bits o := by unfold wordsE; rw [if_neg h]
    rw [wordsV, e, if_neg h]
    refine (words_bad A l.length cap bits o w h).mono ?_
    rintro e w' ⟨rfl, rfl⟩
    exact ⟨_, rfl, RdU.nil _, Below.refl _ _⟩
theorem rwords_gen (l : List (BitVec 8)) (A : Option Addr) (cap : Nat) (bits o : Int) (w : World) (hr : RdB w A l) (hl : l.length ≤ cap) (hs : l.length ≤ 400) :
    Calls Try.prog 26 #[.slice A l.length cap, .int .i64 bits, .int .i64 o] w fun e w' => ∃ v, e = .returned (.tuple #[v, .int .i64 (wordsE l bits o)]) ∧ RdU w' v (wordsV l bits o) ∧ Below w.heap.size w w' := by
  by_cases h : code bits o = 0
  · obtain ⟨⟨n, hn⟩, ho⟩ := code_zero bits o h
    obtain rfl : (bits / 8).toNat = n := by omega
    by_cases hz : l.length % (bits / 8).toNat = 0
    · have e : wordsE l bits o = 0 := by unfold wordsE; rw [if_pos h, if_neg (by omega)]
      rw [wordsV, e, if_pos rfl]
      exact rwords_ok l A cap _ bits o w hr hl hs hn ho hz
    · have e : wordsE l bits o = 11 := by unfold wordsE; rw [if_pos h, if_pos hz]
      rw [wordsV, e, if_neg (by decide)]
      refine (rwords_short A l.length cap _ bits o w hr.1 hn ho hz).mono ?_
      rintro e w' ⟨rfl, hb⟩
      exact ⟨_, rfl, RdU.nil _, hb⟩
  · have e : wordsE l bits o = code bits o := by unfold wordsE; rw [if_neg h]
    rw [wordsV, e, if_neg h]
    refine (rwords_bad A l.length cap bits o w h).mono ?_
    rintro e w' ⟨rfl, hb⟩
    exact ⟨_, rfl, RdU.nil _, hb⟩
set_option maxRecDepth 100000 in
set_option maxHeartbeats 4000000 in
theorem same_any (l : List Nat) (a b : Value) (w : World) (ha : RdU w a l) (hb : RdU w b l) : Calls Try.prog 27 #[a, b] w fun e w' => e = .returned (.bool true) ∧ Below w.heap.size w w' := by
  obtain ⟨A, c, rfl, hc, hra⟩ := ha
  obtain ⟨B, d, rfl, hd, hrb⟩ := hb
  have hm := hra.1
  have HA := Lib.hid hra
  have HB := Lib.hid hrb
  clear hra hrb
  go_enter Try.func27, Try.ntmps27
  go_wp2
  go_loopw [5] (fun i wr => ∃ k : Nat, k ≤ l.length ∧ i = .int .i64 k ∧ Below w.heap.size w wr) (fun i _ => l.length - (intOf i).toNat)
  case atStart => exact ⟨0, Nat.zero_le _, rfl, Below.refl _ _⟩
  case round =>
    obtain ⟨k, hk, rfl, hbel⟩ := hrel
    by_cases hlt : k < l.length
    · have h1 := RdR.below (R' := fun x v => v = Value.int .u64 ((x : Nat) : Int)) HA.out hbel (fun _ _ h => h)
      have h2 := RdR.below (R' := fun x v => v = Value.int .u64 ((x : Nat) : Int)) HB.out hbel (fun _ _ h => h)
      obtain ⟨ad, va, hA, ca, rfl⟩ := h1.2 k hlt
      obtain ⟨bd, vb, hB, cb, rfl⟩ := h2.2 k hlt
      generalize l[k] = X at ca cb
      subst hA hB
      clear h1 h2
      have e2 : ((X : Int) != (X : Int)) = false := by simp
      go_wp2
      go_quiet (fail)
      go_wp2
      go_roundw
      case rel => exact ⟨k + 1, by omega, by go_num, by repeat first | exact hbel | refine below_dr ?_ _⟩
      case measure => simp [intOf]; omega
    · go_wp2
      go_ret
      exact ⟨rfl, hbel⟩
set_option maxRecDepth 100000 in
set_option maxHeartbeats 4000000 in
theorem wordBytes_any (x : BitVec 64) (l : List (BitVec 8)) (A : Option Addr) (cap : Nat) (bits o : Int) (w : World) (hr : RdB w A l) (hl : l.length ≤ cap) (_h : l.length * 1 ≤ 140737488351232) (hbi : -9223372036854775808 ≤ bits ∧ bits ≤ 9223372036854775807) (ho : -9223372036854775808 ≤ o ∧ o ≤ 9223372036854775807) :
    Calls Try.prog 7 #[.int .u64 x.toNat, .slice A l.length cap, .int .i64 bits, .int .i64 o] w fun e w' => e = .returned (.bool true) ∧ Below w.heap.size w w' := by
  have hm := hr.1
  have hr2 := hr.take 400
  have hl2 : (l.take 400).length ≤ cap := by rw [List.length_take]; omega
  have hb400 : (l.take 400).length ≤ 400 := by rw [List.length_take]; omega
  go_enter Try.func7, Try.ntmps7
  go_wp2_with fail
  refine (cut_any l _ cap w hl hm).mono ?_
  rintro e w' ⟨rfl, rfl⟩
  generalize l.take 400 = b at *
  clear hr hl hm _h
  obtain ⟨L, hL⟩ : ∃ L, bytesOf x bits o = L := ⟨_, rfl⟩
  obtain ⟨C, hC⟩ : ∃ C, code bits o = C := ⟨_, rfl⟩
  obtain ⟨V, hV⟩ : ∃ V, wordV b bits o = V := ⟨_, rfl⟩
  obtain ⟨E, hE⟩ : ∃ E, wordE b bits o = E := ⟨_, rfl⟩
  obtain ⟨VS, hVS⟩ : ∃ VS, wordsV b bits o = VS := ⟨_, rfl⟩
  obtain ⟨ES, hES⟩ : ∃ ES, wordsE b bits o = ES := ⟨_, rfl⟩
  have B1 := fun w => bytes_gen x bits o w
  have B2 := fun w => rbytes_gen x bits o w
  have W1 := fun w hr => word_gen b A cap bits o w hr hl2
  have W2 := fun w hr => rword_gen b A cap bits o w hr hl2
  have S1 := fun w hr => words_gen b A cap bits o w hr hl2 hb400
  have S2 := fun w hr => rwords_gen b A cap bits o w hr hl2 hb400
  simp only [hL, hC, hV, hE, hVS, hES] at B1 B2 W1 W2 S1 S2
  replace B1 := Lib.hid B1
  replace B2 := Lib.hid B2
  replace W1 := Lib.hid W1
  replace W2 := Lib.hid W2
  replace S1 := Lib.hid S1
  replace S2 := Lib.hid S2
  clear hL hC hV hE hVS hES hb400
  go_wp2_with (first | (go_at_call 21; refine (B1.out _).mono ?_; rintro e w1 ⟨A1, c1, rfl, r1, b1⟩; have hr3 : RdB w1 A b := RdR.below hr2 b1 (fun _ _ h => h)) | (go_at_call 22; refine (B2.out _).mono ?_; rintro e w2 ⟨A2, c2, rfl, r2, b2⟩; have hr4 : RdB w2 A b := RdR.below hr3 b2 (fun _ _ h => h)) | (go_at_call 23; refine (W1.out _ hr4).mono ?_; rintro e w3 ⟨rfl, rfl⟩) | (go_at_call 24; refine (W2.out _ hr4).mono ?_; rintro e w3 ⟨rfl, b3⟩; have hr5 : RdB w3 A b := RdR.below hr4 b3 (fun _ _ h => h)) | (go_at_call 25; refine (S1.out _ hr5).mono ?_; rintro e w4 ⟨v4, rfl, r4, b4⟩; have hr6 : RdB w4 A b := RdR.below hr5 b4 (fun _ _ h => h)) | (go_at_call 26; refine (S2.out _ hr6).mono ?_; rintro e w5 ⟨v5, rfl, r5, b5⟩; have e1 := conv_rd (RdR.below (RdR.below (RdR.below (RdR.below r1 b2 (fun _ _ h => h)) b3 (fun _ _ h => h)) b4 (fun _ _ h => h)) b5 (fun _ _ h => h) : RdB w5 A1 L) L.length c1 rfl; have e2 := conv_rd (RdR.below (RdR.below (RdR.below r2 b3 (fun _ _ h => h)) b4 (fun _ _ h => h)) b5 (fun _ _ h => h) : RdB w5 A2 L) L.length c2 rfl) | (go_at_call 27; refine (same_any VS _ _ _ (r4.below b5) r5).mono ?_; rintro e w6 ⟨rfl, b6⟩) | (go_at_call 11; refine (alive_any _).mono ?_; rintro e w7 ⟨rfl, b7⟩))
  go_ret
  have s1 := b1.size
  have s2 := b2.size
  have s3 := b3.size
  have s4 := b4.size
  have s5 := b5.size
  have s6 := b6.size
  exact ⟨rfl, Below.trans b1 (Below.trans (b2.mono s1) (Below.trans (b3.mono (by omega)) (Below.trans (b4.mono (by omega)) (Below.trans (b5.mono (by omega)) (Below.trans (b6.mono (by omega)) (b7.mono (by omega)))))))⟩
end Go.Proofs.Ytecaiaobbjddeaa
