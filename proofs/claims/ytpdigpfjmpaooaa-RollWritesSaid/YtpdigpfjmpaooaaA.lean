import Derived.Test.YtpdigpfjmpaooaaM
/-! Where a chunk ends. -/
namespace Go.Proofs.Ytpdigpfjmpaooaa
open Go.RowKit
set_option linter.unusedVariables false
set_option linter.unusedSimpArgs false
set_option maxRecDepth 100000 in
set_option maxHeartbeats 2000000 in
theorem rhash_any (h : Nat) (hh : h < 18446744073709551616) (l : List (BitVec 8)) (A : Option Addr) (cap : Nat) (w : World) (hr : RdB w A l) (hl : l.length ≤ cap) :
    Calls Try.prog 21 #[.int .u64 h, .slice A l.length cap] w fun e w' => e = .returned (.int .u64 (hashL h l)) ∧ w = w' := by
  have hm := hr.1
  have Hr := Lib.hid hr
  clear hr
  obtain ⟨T, hT⟩ : ∃ T, hashL h l = T := ⟨_, rfl⟩
  rw [hT]
  have HT := Lib.hid hT
  clear hT
  go_enter Try.func21, Try.ntmps21
  go_wp2
  go_loop [0, 5] (fun v i => ∃ k : Nat, k ≤ l.length ∧ i = .int .i64 k ∧ v = .int .u64 (hashL h (l.take k) : Nat)) (fun _ i => l.length - (intOf i).toNat)
  case atStart => exact ⟨0, Nat.zero_le _, rfl, by simp [hashL]⟩
  case round =>
    obtain ⟨k, hk, rfl, rfl⟩ := hrel
    by_cases hlt : k < l.length
    · obtain ⟨ad, rfl, hcell⟩ := Hr.out.at' k hlt
      have hst := hashL_take h l k hlt
      have hlt64 := hashL_lt h (l.take k) hh
      generalize hX : l[k] = X at *
      generalize hashL h (l.take k) = H at *
      have Hst := Lib.hid hst
      have hs := hash_step2 H (gearN X.toNat)
      have hg := gearN_lt X.toNat
      obtain ⟨G, hG⟩ : ∃ G, gearN X.toNat = G := ⟨_, rfl⟩
      rw [hG] at hs hg
      have HG := Lib.hid hG
      have hlt' : (2 * H + G) % 18446744073709551616 < 18446744073709551616 := mod64 _
      obtain ⟨R, hR⟩ : ∃ R, (2 * H + G) % 18446744073709551616 = R := ⟨_, rfl⟩
      rw [hR] at hs hlt'
      have HR := Lib.hid hR
      clear hst hX hG hR
      go_wp2_with (go_at_call 19; refine (rgear_any X _).mono ?_; rintro e w' ⟨rfl, rfl⟩; rw [HG.out])
      go_round
      case rel => exact ⟨k + 1, by omega, by go_num, by rw [Hst.out, hashN, HG.out, HR.out]⟩
      case measure => simp [intOf]; omega
    · go_wp2
      go_ret
      obtain rfl : k = l.length := by omega
      exact ⟨ret_int (by rw [List.take_length]; rw [HT.out]), rfl⟩
/-- Does a chunk of n bytes, the hash of which is h, end? -/
def endsB (le mo bi : Int) (n h : Nat) : Bool := decide (mo ≤ n) || (decide (le ≤ n) && decide (h / 2 ^ (64 - bi).toNat = 0))
theorem ret_bool {a b : Bool} (h : a = b) : Ending.returned (.bool a) = Ending.returned (.bool b) := by rw [h]
theorem shift_zero (h c : Nat) : ((h : Int) / 2 ^ c == 0) = decide (h / 2 ^ c = 0) := by
  have e : (h : Int) / 2 ^ c = ((h / 2 ^ c : Nat) : Int) := by push_cast; rfl
  rw [e]
  generalize h / 2 ^ c = x
  by_cases hx : x = 0
  · simp [hx]
  · simp [hx]
theorem ends_any (le mo bi : Int) (n h : Nat) (w : World) (hok : okC le mo bi) (hn : n ≤ 2097152) (hh : h < 18446744073709551616) :
    Calls Try.prog 30 #[confV le mo bi, .int .i64 n, .int .u64 h] w fun e w' => e = .returned (.bool (endsB le mo bi n h)) ∧ w.alloc (confO le mo bi) = w' := by
  obtain ⟨h1, h2, h3, h4, h5⟩ := hok
  by_cases hm : mo ≤ n
  · have e : endsB le mo bi n h = true := by simp [endsB, hm]
    rw [e]
    go_enter Try.func30, Try.ntmps30
    go_wp2
    go_ret
    exact ⟨rfl, rfl⟩
  · by_cases hle : le ≤ n
    · obtain ⟨c, hc⟩ : ∃ c, 64 - bi = c := ⟨_, rfl⟩
      have c0 : 44 ≤ c := by omega
      have c1 : c ≤ 64 := by omega
      obtain ⟨b, e⟩ : ∃ b, endsB le mo bi n h = b := ⟨_, rfl⟩
      have hb := shift_zero h c.toNat
      have e2 : endsB le mo bi n h = decide (h / 2 ^ c.toNat = 0) := by simp [endsB, hm, hle, hc]
      rw [← e2, e] at hb
      rw [e]
      have HB := Lib.hid hb
      clear hb e e2
      go_enter Try.func30, Try.ntmps30
      go_wp2
      go_ret
      exact ⟨ret_bool HB.out, rfl⟩
    · have e : endsB le mo bi n h = false := by simp [endsB, hm, hle]
      rw [e]
      go_enter Try.func30, Try.ntmps30
      go_wp2
      go_ret
      exact ⟨rfl, rfl⟩
theorem rends_any (le mo bi : Int) (n h : Nat) (w : World) (hok : okC le mo bi) (hn : (n : Int) ≤ mo) (hh : h < 18446744073709551616) :
    Calls Try.prog 34 #[confV le mo bi, .int .i64 n, .int .u64 h] w fun e w' => e = .returned (.bool (endsB le mo bi n h)) ∧ w.alloc (confO le mo bi) = w' := by
  obtain ⟨h1, h2, h3, h4, h5⟩ := hok
  by_cases hm : mo = n
  · have e : endsB le mo bi n h = true := by simp [endsB, hm]
    rw [e]
    have q : ((n : Int) == mo) = true := by simp [hm]
    have Hm := Lib.hid hm
    clear hm
    go_enter Try.func34, Try.ntmps34
    go_wp2
    go_ret
    exact ⟨rfl, rfl⟩
  · have hm' : ¬ (mo ≤ n) := by omega
    have q : ((n : Int) == mo) = false := by simp; omega
    by_cases hle : le ≤ n
    · by_cases hb0 : bi = 0
      · have e : endsB le mo bi n h = true := by
          have h64 : h / 2 ^ 64 = 0 := Nat.div_eq_of_lt hh
          simp only [endsB, hm', hle, hb0, decide_false, decide_true, Bool.false_or, Bool.true_and]
          exact decide_eq_true h64
        rw [e]
        have q2 : (bi == 0) = true := by simp [hb0]
        have Hb := Lib.hid hb0
        clear hb0 e
        go_enter Try.func34, Try.ntmps34
        go_wp2
        go_ret
        exact ⟨rfl, rfl⟩
      · have q2 : (bi == 0) = false := by simp [hb0]
        obtain ⟨c, hc⟩ : ∃ c, 64 - bi = c := ⟨_, rfl⟩
        have c0 : 44 ≤ c := by omega
        have c1 : c ≤ 64 := by omega
        obtain ⟨b, e⟩ : ∃ b, endsB le mo bi n h = b := ⟨_, rfl⟩
        have hb := shift_zero h c.toNat
        have e2 : endsB le mo bi n h = decide (h / 2 ^ c.toNat = 0) := by simp [endsB, hm', hle, hc]
        rw [← e2, e] at hb
        rw [e]
        have HB := Lib.hid hb
        have Hb := Lib.hid hb0
        clear hb e e2 hb0
        go_enter Try.func34, Try.ntmps34
        go_wp2
        go_ret
        exact ⟨ret_bool HB.out, rfl⟩
    · have e : endsB le mo bi n h = false := by simp [endsB, hm', hle]
      rw [e]
      go_enter Try.func34, Try.ntmps34
      go_wp2
      go_ret
      exact ⟨rfl, rfl⟩
/-- How many bytes the first chunk has, and whether it ends: with k bytes and the hash h behind. -/
def nextL (le mo bi : Int) : List (BitVec 8) → Nat → Nat → Nat × Bool
  | [], _, k => (k, false)
  | x :: l, h, k => if endsB le mo bi (k + 1) (hashN h x.toNat) then (k + 1, true) else nextL le mo bi l (hashN h x.toNat) (k + 1)
theorem nextL_bounds (le mo bi : Int) (hok : okC le mo bi) : ∀ (l : List (BitVec 8)) (h k : Nat), (k : Int) < mo → k ≤ (nextL le mo bi l h k).1 ∧ (nextL le mo bi l h k).1 ≤ k + l.length ∧ ((nextL le mo bi l h k).1 : Int) ≤ mo ∧ ((nextL le mo bi l h k).2 = true → le ≤ ((nextL le mo bi l h k).1 : Int) ∧ k < (nextL le mo bi l h k).1) ∧ ((nextL le mo bi l h k).2 = false → (nextL le mo bi l h k).1 = k + l.length)
  | [], h, k, hk => by simp [nextL]; omega
  | x :: l, h, k, hk => by
    unfold nextL
    split
    · rename_i he
      simp [endsB] at he
      obtain ⟨_, h2, _, _, _⟩ := hok
      refine ⟨by simp, by simp, by simp; omega, fun _ => ⟨by simp; omega, by simp⟩, fun h => by cases h⟩
    · rename_i he
      simp [endsB] at he
      obtain ⟨a, b, c, d, e⟩ := nextL_bounds le mo bi hok l (hashN h x.toNat) (k + 1) (by omega)
      refine ⟨by omega, by simp; omega, c, fun h => ⟨(d h).1, by have := (d h).2; omega⟩, fun h => by rw [e h]; simp; omega⟩
set_option maxRecDepth 100000 in
set_option maxHeartbeats 2000000 in
theorem next_any (le mo bi : Int) (l : List (BitVec 8)) (A : Option Addr) (cap : Nat) (w : World) (hok : okC le mo bi) (hr : RdB w A l) (hl : l.length ≤ cap) :
    Calls Try.prog 11 #[confV le mo bi, .slice A l.length cap] w fun e w' => e = .returned (.tuple #[.int .i64 ((nextL le mo bi l 0 0).1 : Nat), .bool (nextL le mo bi l 0 0).2, .int .i64 0]) ∧ Below w.heap.size w w' := by
  have hm := hr.1
  have Hr := Lib.hid hr
  have Hok := Lib.hid hok
  have hmo4 : mo ≤ 4096 := hok.2.2.1
  clear hr hok
  obtain ⟨T, hT⟩ : ∃ T, nextL le mo bi l 0 0 = T := ⟨_, rfl⟩
  rw [hT]
  have HT := Lib.hid hT
  clear hT
  have hck : checkC le mo bi = 0 := by rw [checkC, if_pos Hok.out]
  have HC := Lib.hid hck
  clear hck
  go_enter Try.func11, Try.ntmps11
  go_wp2_with (go_at_call 17; refine (check_any le mo bi _).mono ?_; rintro e w' ⟨rfl, rfl⟩; rw [HC.out])
  go_loopw [8, 18] (fun v i wr => ∃ k : Nat, k ≤ l.length ∧ (k : Int) < mo ∧ i = .int .i64 k ∧ v = .int .u64 (hashL 0 (l.take k) : Nat) ∧ nextL le mo bi (l.drop k) (hashL 0 (l.take k)) k = T ∧ Below w.heap.size w wr ∧ wr.cell? ⟨w.heap.size, 0, none⟩ = some (.int .i64 le) ∧ wr.cell? ⟨w.heap.size, 1, none⟩ = some (.int .i64 mo) ∧ wr.cell? ⟨w.heap.size, 2, none⟩ = some (.int .i64 bi)) (fun _ i _ => l.length - (intOf i).toNat)
  case atStart =>
    refine ⟨0, Nat.zero_le _, by have := Hok.out; unfold okC at this; simp; omega, rfl, by simp [hashL], by simpa [hashL] using HT.out, ?_, ?_, ?_, ?_⟩
    · exact ((Below.refl _ _).alloc (Nat.le_refl _) _).alloc (by simp) _
    · simp [go_sem]
    · simp [go_sem]
    · simp [go_sem]
  case round =>
    obtain ⟨k, hk, hkm, rfl, rfl, hN, hbel, d0, d1, d2⟩ := hrel
    have hsw := hbel.size
    by_cases hlt : k < l.length
    · have hrd := RdR.below (R' := EqB) Hr.out hbel (fun _ _ h => h)
      obtain ⟨ad, rfl, hcell⟩ := RdB.at' hrd k hlt
      have hst := hashL_take 0 l k hlt
      have hlt64 := hashL_lt 0 (l.take k) (by decide)
      rw [List.drop_eq_getElem_cons hlt] at hN
      unfold nextL at hN
      generalize hX : l[k] = X at *
      generalize hashL 0 (l.take k) = H at *
      have Hst := Lib.hid hst
      have hs' := hash_step H (gearN X.toNat)
      have hg := gearN_lt X.toNat
      have hhN : hashN H X.toNat = (2 * H + gearN X.toNat) % 18446744073709551616 := rfl
      obtain ⟨G, hG⟩ : ∃ G, gearN X.toNat = G := ⟨_, rfl⟩
      rw [hG] at hs' hg hhN
      have HG := Lib.hid hG
      have hlt' : (2 * H + G) % 18446744073709551616 < 18446744073709551616 := mod64 _
      obtain ⟨R, hR⟩ : ∃ R, (2 * H + G) % 18446744073709551616 = R := ⟨_, rfl⟩
      rw [hR] at hs' hlt' hhN
      rw [hhN] at hN
      have HR := Lib.hid hhN
      have ENDS : ∀ w, Calls Try.prog 30 #[confV le mo bi, .int .i64 ((k : Int) + 1), .int .u64 R] w fun e w' => e = .returned (.bool (endsB le mo bi (k + 1) R)) ∧ w.alloc (confO le mo bi) = w' := by
        intro w
        have h := ends_any le mo bi (k + 1) R w Hok.out (by omega) hlt'
        rwa [show ((k + 1 : Nat) : Int) = (k : Int) + 1 by push_cast; rfl] at h
      cases hE : endsB le mo bi (k + 1) R with
      | true =>
        rw [hE] at ENDS hN
        simp only [if_true] at hN
        subst hN
        replace ENDS := Lib.hid ENDS
        clear hst hX hG hR hE HT hhN
        go_wp2_with (first | (go_at_call 18; refine (gear_any X _).mono ?_; rintro e w' ⟨rfl, rfl⟩; rw [HG.out]) | (go_at_call 30; refine (ENDS.out _).mono ?_; rintro e w' ⟨rfl, rfl⟩))
        go_ret3
        exact ⟨rfl, hbel.alloc hsw _⟩
      | false =>
        rw [hE] at ENDS hN
        have hcont : nextL le mo bi (l.drop (k + 1)) R (k + 1) = T := by simpa using hN
        have hkm' : ((k + 1 : Nat) : Int) < mo := by
          have := hE
          simp [endsB] at this
          push_cast; omega
        replace ENDS := Lib.hid ENDS
        have Hc := Lib.hid hcont
        clear hst hX hG hR hE hhN hN hcont
        go_wp2_with (first | (go_at_call 18; refine (gear_any X _).mono ?_; rintro e w' ⟨rfl, rfl⟩; rw [HG.out]) | (go_at_call 30; refine (ENDS.out _).mono ?_; rintro e w' ⟨rfl, rfl⟩))
        go_roundw
        case rel => exact ⟨k + 1, by omega, hkm', by go_num, by rw [Hst.out, HR.out], by rw [Hst.out, HR.out]; exact Hc.out, hbel.alloc hsw _, cell_old _ d0, cell_old _ d1, cell_old _ d2⟩
        case measure => simp [intOf]; omega
    · obtain rfl : k = l.length := by omega
      have e : T = (l.length, false) := by rw [← hN]; simp [nextL]
      subst e
      go_wp2
      go_ret3
      exact ⟨rfl, hbel⟩
set_option maxRecDepth 100000 in
set_option maxHeartbeats 2000000 in
theorem rnext_any (le mo bi : Int) (l : List (BitVec 8)) (A : Option Addr) (cap : Nat) (w : World) (hok : okC le mo bi) (hr : RdB w A l) (hl : l.length ≤ cap) :
    Calls Try.prog 31 #[confV le mo bi, .slice A l.length cap] w fun e w' => e = .returned (.tuple #[.int .i64 ((nextL le mo bi l 0 0).1 : Nat), .bool (nextL le mo bi l 0 0).2]) ∧ Below w.heap.size w w' := by
  have hm := hr.1
  have Hr := Lib.hid hr
  have Hok := Lib.hid hok
  have hmo4 : mo ≤ 4096 := hok.2.2.1
  clear hr hok
  obtain ⟨T, hT⟩ : ∃ T, nextL le mo bi l 0 0 = T := ⟨_, rfl⟩
  rw [hT]
  have HT := Lib.hid hT
  clear hT
  go_enter Try.func31, Try.ntmps31
  go_wp2
  go_loopw [6, 7] (fun v i wr => ∃ k : Nat, k ≤ l.length ∧ (k : Int) < mo ∧ i = .int .i64 ((k : Int) + 1) ∧ v = .int .u64 (hashL 0 (l.take k) : Nat) ∧ nextL le mo bi (l.drop k) (hashL 0 (l.take k)) k = T ∧ Below w.heap.size w wr ∧ wr.cell? ⟨w.heap.size, 0, none⟩ = some (.int .i64 le) ∧ wr.cell? ⟨w.heap.size, 1, none⟩ = some (.int .i64 mo) ∧ wr.cell? ⟨w.heap.size, 2, none⟩ = some (.int .i64 bi)) (fun _ i _ => l.length + 1 - (intOf i).toNat)
  case atStart =>
    refine ⟨0, Nat.zero_le _, by have := Hok.out; unfold okC at this; simp; omega, rfl, by simp [hashL], by simpa [hashL] using HT.out, ?_, ?_, ?_, ?_⟩
    · exact (Below.refl _ _).alloc (Nat.le_refl _) _
    · simp [go_sem]
    · simp [go_sem]
    · simp [go_sem]
  case round =>
    obtain ⟨k, hk, hkm, rfl, rfl, hN, hbel, d0, d1, d2⟩ := hrel
    have hsw := hbel.size
    by_cases hlt : k < l.length
    · have hrd := RdR.below (R' := EqB) Hr.out hbel (fun _ _ h => h)
      obtain ⟨ad, rfl, hcell⟩ := RdB.at' hrd k hlt
      have hkm2 : (k : Int) + 1 - 1 = (k : Int) := by omega
      have hst := hashL_take 0 l k hlt
      have hlt64 := hashL_lt 0 (l.take k) (by decide)
      rw [List.drop_eq_getElem_cons hlt] at hN
      unfold nextL at hN
      generalize hX : l[k] = X at *
      generalize hashL 0 (l.take k) = H at *
      have Hst := Lib.hid hst
      have hs' := hash_step2 H (gearN X.toNat)
      have hg := gearN_lt X.toNat
      have hhN : hashN H X.toNat = (2 * H + gearN X.toNat) % 18446744073709551616 := rfl
      obtain ⟨G, hG⟩ : ∃ G, gearN X.toNat = G := ⟨_, rfl⟩
      rw [hG] at hs' hg hhN
      have HG := Lib.hid hG
      have hlt' : (2 * H + G) % 18446744073709551616 < 18446744073709551616 := mod64 _
      obtain ⟨R, hR⟩ : ∃ R, (2 * H + G) % 18446744073709551616 = R := ⟨_, rfl⟩
      rw [hR] at hs' hlt' hhN
      rw [hhN] at hN
      have HR := Lib.hid hhN
      have ENDS : ∀ w, Calls Try.prog 34 #[confV le mo bi, .int .i64 ((k : Int) + 1), .int .u64 R] w fun e w' => e = .returned (.bool (endsB le mo bi (k + 1) R)) ∧ w.alloc (confO le mo bi) = w' := by
        intro w
        have h := rends_any le mo bi (k + 1) R w Hok.out (by omega) hlt'
        rwa [show ((k + 1 : Nat) : Int) = (k : Int) + 1 by push_cast; rfl] at h
      cases hE : endsB le mo bi (k + 1) R with
      | true =>
        rw [hE] at ENDS hN
        simp only [if_true] at hN
        subst hN
        replace ENDS := Lib.hid ENDS
        clear hst hX hG hR hE HT hhN
        go_wp2_with (first | (go_at_call 19; refine (rgear_any X _).mono ?_; rintro e w' ⟨rfl, rfl⟩; rw [HG.out]) | (go_at_call 34; refine (ENDS.out _).mono ?_; rintro e w' ⟨rfl, rfl⟩))
        go_ret2
        exact ⟨rfl, hbel.alloc hsw _⟩
      | false =>
        rw [hE] at ENDS hN
        have hcont : nextL le mo bi (l.drop (k + 1)) R (k + 1) = T := by simpa using hN
        have hkm' : ((k + 1 : Nat) : Int) < mo := by
          have := hE
          simp [endsB] at this
          push_cast; omega
        replace ENDS := Lib.hid ENDS
        have Hc := Lib.hid hcont
        clear hst hX hG hR hE hhN hN hcont
        go_wp2_with (first | (go_at_call 19; refine (rgear_any X _).mono ?_; rintro e w' ⟨rfl, rfl⟩; rw [HG.out]) | (go_at_call 34; refine (ENDS.out _).mono ?_; rintro e w' ⟨rfl, rfl⟩))
        go_roundw
        case rel => exact ⟨k + 1, by omega, hkm', by go_num, by rw [Hst.out, HR.out], by rw [Hst.out, HR.out]; exact Hc.out, hbel.alloc hsw _, cell_old _ d0, cell_old _ d1, cell_old _ d2⟩
        case measure => simp [intOf]; omega
    · obtain rfl : k = l.length := by omega
      have e : T = (l.length, false) := by rw [← hN]; simp [nextL]
      subst e
      go_wp2
      go_ret2
      exact ⟨rfl, hbel⟩
end Go.Proofs.Ytpdigpfjmpaooaa
