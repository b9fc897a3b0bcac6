import Derived.Test.YtinkcffkhbaleaaB
/-! How many questions there may be; what follows of a span. -/
namespace Go.Proofs.Ytinkcffkhbaleaa
open Go.RowKit
set_option linter.unusedVariables false
set_option linter.unusedSimpArgs false

/-- Halvings, upwards, until one is left. -/
def halves : Nat → Nat → Nat
  | 0, _ => 0
  | f + 1, d => if d ≤ 1 then 0 else halves f ((d + 1) / 2) + 1
theorem halves_le (f d : Nat) (h : d ≤ 2 ^ f) : ∀ f', f ≤ f' → halves f' d = halves f d := by
  induction f generalizing d with
  | zero =>
    intro f' _
    have : d ≤ 1 := by simpa using h
    cases f' <;> simp [halves, this]
  | succ f ih =>
    intro f' hf
    obtain ⟨f', rfl⟩ : ∃ g, f' = g + 1 := ⟨f' - 1, by omega⟩
    unfold halves
    split
    · rfl
    · rw [ih ((d + 1) / 2) (by rw [Nat.pow_succ] at h; omega) f' (by omega)]
theorem halves_bound (f d : Nat) : halves f d ≤ f := by
  induction f generalizing d with
  | zero => simp [halves]
  | succ f ih =>
    unfold halves
    split
    · omega
    · have := ih ((d + 1) / 2)
      omega
/-- How many questions there may be at a width d. -/
def mostN (d : Nat) : Nat := halves 31 d
theorem mostN_le (d : Nat) : mostN d ≤ 31 := halves_bound 31 d
theorem mostN_one (d : Nat) (h : d ≤ 1) : mostN d = 0 := by unfold mostN halves; simp [h]
theorem mostN_step (d : Nat) (h : 1 < d) (hd : d ≤ 2147483648) : mostN d = mostN ((d + 1) / 2) + 1 := by
  have h1 : halves 31 d = halves 30 ((d + 1) / 2) + 1 := by
    rw [show (31 : Nat) = 30 + 1 from rfl]; conv => lhs; unfold halves
    rw [if_neg (by omega)]
  unfold mostN
  rw [h1, halves_le 30 ((d + 1) / 2) (by have : (2:Nat)^30 = 1073741824 := by decide
                                         omega) 31 (by omega)]
theorem mostN_down (d : Nat) (h : 1 < d) (hd : d ≤ 2147483648) : mostN (d - d / 2) + 1 = mostN d := by
  rw [mostN_step d h hd, show d - d / 2 = (d + 1) / 2 by omega]
def mostS (lo hi : Int) : Int := if okS lo hi then (mostN (hi - lo).toNat : Int) else 0

theorem most_any (lo hi : Int) (w : World) : Calls Try.prog 20 #[spanV lo hi] w fun e w' => e = .returned (.int .i64 (mostS lo hi)) ∧ (w.alloc (spanO lo hi)).alloc (spanO lo hi) = w' := by
  by_cases h : okS lo hi
  · obtain ⟨D, hD⟩ : ∃ D, (hi - lo).toNat = D := ⟨_, rfl⟩
    rw [show mostS lo hi = (mostN D : Int) by simp [mostS, h, hD]]
    have H := Lib.hid h
    obtain ⟨h2, h3, h4⟩ := h
    have hd : hi - lo = D := by omega
    have hD2 : D ≤ 1073741825 := by omega
    clear hD
    go_enter Try.func20, Try.ntmps20
    go_wp2_with (go_at_call 26; refine (may_ok lo hi _ H.out).mono ?_; rintro e w' ⟨rfl, rfl⟩)
    go_loop [3, 4] (fun n d => ∃ k : Nat, ∃ c : Nat, c ≤ D ∧ 1 ≤ c ∧ k + mostN c = mostN D ∧ n = .int .i64 k ∧ d = .int .i64 c) (fun _ d => (intOf d).toNat)
    case atStart => exact ⟨0, D, Nat.le_refl _, by omega, by omega, rfl, rfl⟩
    case round =>
      obtain ⟨k, c, hcD, hc1, hk, rfl, rfl⟩ := hrel
      have hk31 : k ≤ 31 := by have := mostN_le D; omega
      have Hk := Lib.hid hk
      clear hk
      by_cases hlt : 1 < c
      · go_wp2
        go_round
        case rel => exact ⟨k + 1, (c + 1) / 2, by omega, by omega, by have := Hk.out; rw [mostN_step c hlt (by omega)] at this; omega, by go_num, by first | rfl | (congr 1; done) | (congr 1; omega)⟩
        case measure => simp [intOf]; omega
      · go_wp2
        go_ret
        have := Hk.out
        rw [mostN_one c (by omega)] at this
        exact ⟨ret_int (by omega), rfl⟩
  · rw [show mostS lo hi = 0 by simp [mostS, h]]
    have H := Lib.hid h; clear h
    go_enter Try.func20, Try.ntmps20
    go_wp2_with (go_at_call 26; refine (may_no lo hi _ H.out).mono ?_; rintro e w' ⟨rfl, rfl⟩)
    go_ret
    exact ⟨rfl, rfl⟩

theorem rmost_any (lo hi : Int) (w : World) : Calls Try.prog 21 #[spanV lo hi] w fun e w' => e = .returned (.int .i64 (mostS lo hi)) ∧ (w.alloc (spanO lo hi)).alloc (spanO lo hi) = w' := by
  by_cases h : okS lo hi
  · obtain ⟨D, hD⟩ : ∃ D, (hi - lo).toNat = D := ⟨_, rfl⟩
    rw [show mostS lo hi = (mostN D : Int) by simp [mostS, h, hD]]
    have H := Lib.hid h
    obtain ⟨h2, h3, h4⟩ := h
    have hd : hi - lo = D := by omega
    have hD2 : D ≤ 1073741825 := by omega
    clear hD
    go_enter Try.func21, Try.ntmps21
    go_wp2_with (go_at_call 12; refine (rcheck_ok lo hi _ H.out).mono ?_; rintro e w' ⟨rfl, rfl⟩)
    go_loop [3, 4] (fun n d => ∃ k : Nat, ∃ c : Nat, c ≤ D ∧ 1 ≤ c ∧ k + mostN c = mostN D ∧ n = .int .i64 k ∧ d = .int .i64 c) (fun _ d => (intOf d).toNat)
    case atStart => exact ⟨0, D, Nat.le_refl _, by omega, by omega, rfl, rfl⟩
    case round =>
      obtain ⟨k, c, hcD, hc1, hk, rfl, rfl⟩ := hrel
      have hk31 : k ≤ 31 := by have := mostN_le D; omega
      have Hk := Lib.hid hk
      clear hk
      by_cases hlt : 1 < c
      · go_wp2
        go_round
        case rel => exact ⟨k + 1, c - c / 2, by omega, by omega, by have := Hk.out; have := mostN_down c hlt (by omega); omega, by go_num, by first | rfl | (congr 1; done) | (congr 1; omega)⟩
        case measure => simp [intOf]; omega
      · go_wp2
        go_ret
        have := Hk.out
        rw [mostN_one c (by omega)] at this
        exact ⟨ret_int (by omega), rfl⟩
  · rw [show mostS lo hi = 0 by simp [mostS, h]]
    have H := Lib.hid h; clear h
    go_enter Try.func21, Try.ntmps21
    go_wp2_with (go_at_call 12; refine (rcheck_no lo hi _ H.out).mono ?_; rintro e w' ⟨rfl, rfl⟩)
    go_ret
    exact ⟨rfl, rfl⟩

/-- What follows of a span. -/
def planV (c : Bool) (a b d : Int) : Value := .agg #[.bool c, .int .i64 a, .int .i64 b, .int .i64 d]
def fits (lo hi a b : Int) : Prop := okS lo hi ∧ hi = lo + 1 ∧ lo ≤ clipZ a ∧ lo ≤ clipZ b
instance (lo hi a b : Int) : Decidable (fits lo hi a b) := by unfold fits; infer_instance
structure Plan where
  cut : Bool
  low : Int
  frm : Int
  upto : Int
abbrev Plan.cells (p : Plan) : Array Value := #[.bool p.cut, .int .i64 p.low, .int .i64 p.frm, .int .i64 p.upto]
def makeP (lo hi a b : Int) : Plan := if fits lo hi a b then ⟨decide (lo < clipZ b), lo, lo + 1, clipZ a⟩ else ⟨false, 0, 0, 0⟩
def makeE (lo hi a b : Int) : Int := if fits lo hi a b then 0 else 210

set_option maxRecDepth 100000 in
set_option maxHeartbeats 4000000 in
theorem make_any (lo hi a b : Int) (w : World) (ha : -9223372036854775808 ≤ a ∧ a ≤ 9223372036854775807) (hb : -9223372036854775808 ≤ b ∧ b ≤ 9223372036854775807) :
    Calls Try.prog 9 #[spanV lo hi, .int .i64 a, .int .i64 b] w fun e w' => e = .returned (.tuple #[.agg (makeP lo hi a b).cells, .int .i64 (makeE lo hi a b)]) ∧
      ((w.alloc (spanO lo hi)).alloc (.cells (makeP lo hi a b).cells 25)).alloc (spanO lo hi) = w' := by
  have e1 : makeP lo hi a b = if fits lo hi a b then ⟨decide (lo < clipZ b), lo, lo + 1, clipZ a⟩ else ⟨false, 0, 0, 0⟩ := rfl
  have e2 : makeE lo hi a b = if fits lo hi a b then 0 else 210 := rfl
  have F : fits lo hi a b ↔ (okS lo hi ∧ hi = lo + 1 ∧ lo ≤ clipZ a ∧ lo ≤ clipZ b) := Iff.rfl
  obtain ⟨x, hx⟩ : ∃ x, clipZ a = x := ⟨_, rfl⟩
  obtain ⟨y, hy⟩ : ∃ y, clipZ b = y := ⟨_, rfl⟩
  have rx := clip_range a
  have ry := clip_range b
  have Ha := Lib.hid ha
  have Hb := Lib.hid hb
  rw [hx] at rx e1 F
  rw [hy] at ry e1 F
  have Hx := Lib.hid hx
  have Hy := Lib.hid hy
  clear hx hy ha hb
  generalize hP : makeP lo hi a b = PP at *
  generalize hE : makeE lo hi a b = EE at *
  clear hP hE
  by_cases hok : okS lo hi
  · have H := Lib.hid hok
    by_cases k1 : hi = lo + 1
    · have hlo := hok.1
      have hhi := hok.2.2
      rcases Int.lt_or_le x lo with k2 | k2
      · have f : ¬ fits lo hi a b := by rw [F]; intro z; exact absurd z.2.2.1 (by omega)
        rw [if_neg f] at e1 e2
        subst e1 e2
        clear F f
        subst k1
        clear hok
        go_enter Try.func9, Try.ntmps9
        go_wp2_with (first | (go_at_call 25; refine (clip_any a _ Ha.out.1 Ha.out.2).mono ?_; rintro e w' ⟨rfl, rfl⟩; rw [Hx.out]) | (go_at_call 25; refine (clip_any b _ Hb.out.1 Hb.out.2).mono ?_; rintro e w' ⟨rfl, rfl⟩; rw [Hy.out]) | (go_at_call 26; refine (may_ok lo _ _ H.out).mono ?_; rintro e w' ⟨rfl, rfl⟩))
        exact bodyPost_ret (v := .tuple #[.agg #[.bool false, .int .i64 0, .int .i64 0, .int .i64 0], .int .i64 210]) (by simp [results, Try.results9, go_sem]) rfl ⟨rfl, rfl⟩
      · rcases Int.lt_or_le y lo with k3 | k3
        · have f : ¬ fits lo hi a b := by rw [F]; intro z; exact absurd z.2.2.2 (by omega)
          rw [if_neg f] at e1 e2
          subst e1 e2
          clear F f
          subst k1
          clear hok
          go_enter Try.func9, Try.ntmps9
          go_wp2_with (first | (go_at_call 25; refine (clip_any a _ Ha.out.1 Ha.out.2).mono ?_; rintro e w' ⟨rfl, rfl⟩; rw [Hx.out]) | (go_at_call 25; refine (clip_any b _ Hb.out.1 Hb.out.2).mono ?_; rintro e w' ⟨rfl, rfl⟩; rw [Hy.out]) | (go_at_call 26; refine (may_ok lo _ _ H.out).mono ?_; rintro e w' ⟨rfl, rfl⟩))
          exact bodyPost_ret (v := .tuple #[.agg #[.bool false, .int .i64 0, .int .i64 0, .int .i64 0], .int .i64 210]) (by simp [results, Try.results9, go_sem]) rfl ⟨rfl, rfl⟩
        · have f : fits lo hi a b := F.2 ⟨hok, k1, k2, k3⟩
          rw [if_pos f] at e1 e2
          subst e1 e2
          clear F f hok
          subst k1
          have hz : lo = y ∨ lo < y := by omega
          clear k3
          rcases hz with rfl | hz
          · rw [show decide (lo < lo) = false by simp]
            go_enter Try.func9, Try.ntmps9
            go_wp2_with (first | (go_at_call 25; refine (clip_any a _ Ha.out.1 Ha.out.2).mono ?_; rintro e w' ⟨rfl, rfl⟩; rw [Hx.out]) | (go_at_call 25; refine (clip_any b _ Hb.out.1 Hb.out.2).mono ?_; rintro e w' ⟨rfl, rfl⟩; rw [Hy.out]) | (go_at_call 26; refine (may_ok lo _ _ H.out).mono ?_; rintro e w' ⟨rfl, rfl⟩))
            exact bodyPost_ret (v := .tuple #[.agg #[.bool false, .int .i64 lo, .int .i64 (lo + 1), .int .i64 x], .int .i64 0]) (by simp [results, Try.results9, go_sem]) rfl ⟨rfl, rfl⟩
          · rw [show decide (lo < y) = true by simp; omega]
            go_enter Try.func9, Try.ntmps9
            go_wp2_with (first | (go_at_call 25; refine (clip_any a _ Ha.out.1 Ha.out.2).mono ?_; rintro e w' ⟨rfl, rfl⟩; rw [Hx.out]) | (go_at_call 25; refine (clip_any b _ Hb.out.1 Hb.out.2).mono ?_; rintro e w' ⟨rfl, rfl⟩; rw [Hy.out]) | (go_at_call 26; refine (may_ok lo _ _ H.out).mono ?_; rintro e w' ⟨rfl, rfl⟩))
            exact bodyPost_ret (v := .tuple #[.agg #[.bool true, .int .i64 lo, .int .i64 (lo + 1), .int .i64 x], .int .i64 0]) (by simp [results, Try.results9, go_sem]) rfl ⟨rfl, rfl⟩
    · have f : ¬ fits lo hi a b := fun z => k1 z.2.1
      rw [if_neg f] at e1 e2
      subst e1 e2
      clear F f
      have hok' := hok
      obtain ⟨h2, h3, h4⟩ := hok'
      clear hok
      have hb : (hi == lo + 1) = false := by simpa using k1
      go_enter Try.func9, Try.ntmps9
      go_wp2_with (first | (go_at_call 25; refine (clip_any a _ Ha.out.1 Ha.out.2).mono ?_; rintro e w' ⟨rfl, rfl⟩; rw [Hx.out]) | (go_at_call 25; refine (clip_any b _ Hb.out.1 Hb.out.2).mono ?_; rintro e w' ⟨rfl, rfl⟩; rw [Hy.out]) | (go_at_call 26; refine (may_ok lo _ _ H.out).mono ?_; rintro e w' ⟨rfl, rfl⟩))
      exact bodyPost_ret (v := .tuple #[.agg #[.bool false, .int .i64 0, .int .i64 0, .int .i64 0], .int .i64 210]) (by simp [results, Try.results9, go_sem]) rfl ⟨rfl, rfl⟩
  · have f : ¬ fits lo hi a b := fun z => hok z.1
    rw [if_neg f] at e1 e2
    subst e1 e2
    clear F f
    have H := Lib.hid hok
    clear hok
    go_enter Try.func9, Try.ntmps9
    go_wp2_with (first | (go_at_call 25; refine (clip_any a _ Ha.out.1 Ha.out.2).mono ?_; rintro e w' ⟨rfl, rfl⟩; rw [Hx.out]) | (go_at_call 25; refine (clip_any b _ Hb.out.1 Hb.out.2).mono ?_; rintro e w' ⟨rfl, rfl⟩; rw [Hy.out]) | (go_at_call 26; refine (may_no lo _ _ H.out).mono ?_; rintro e w' ⟨rfl, rfl⟩))
    exact bodyPost_ret (v := .tuple #[.agg #[.bool false, .int .i64 0, .int .i64 0, .int .i64 0], .int .i64 210]) (by simp [results, Try.results9, go_sem]) rfl ⟨rfl, rfl⟩
set_option maxRecDepth 100000 in
set_option maxHeartbeats 4000000 in
theorem rmake_any (lo hi a b : Int) (w : World) (ha : -9223372036854775808 ≤ a ∧ a ≤ 9223372036854775807) (hb : -9223372036854775808 ≤ b ∧ b ≤ 9223372036854775807) :
    Calls Try.prog 10 #[spanV lo hi, .int .i64 a, .int .i64 b] w fun e w' => e = .returned (.tuple #[.agg (makeP lo hi a b).cells, .int .i64 (makeE lo hi a b)]) ∧
      ((w.alloc (spanO lo hi)).alloc (.cells (makeP lo hi a b).cells 25)).alloc (spanO lo hi) = w' := by
  have e1 : makeP lo hi a b = if fits lo hi a b then ⟨decide (lo < clipZ b), lo, lo + 1, clipZ a⟩ else ⟨false, 0, 0, 0⟩ := rfl
  have e2 : makeE lo hi a b = if fits lo hi a b then 0 else 210 := rfl
  have F : fits lo hi a b ↔ (okS lo hi ∧ hi = lo + 1 ∧ lo ≤ clipZ a ∧ lo ≤ clipZ b) := Iff.rfl
  obtain ⟨x, hx⟩ : ∃ x, clipZ a = x := ⟨_, rfl⟩
  obtain ⟨y, hy⟩ : ∃ y, clipZ b = y := ⟨_, rfl⟩
  have rx := clip_range a
  have ry := clip_range b
  have Ha := Lib.hid ha
  have Hb := Lib.hid hb
  rw [hx] at rx e1 F
  rw [hy] at ry e1 F
  have Hx := Lib.hid hx
  have Hy := Lib.hid hy
  clear hx hy ha hb
  generalize hP : makeP lo hi a b = PP at *
  generalize hE : makeE lo hi a b = EE at *
  clear hP hE
  by_cases hok : okS lo hi
  · have H := Lib.hid hok
    by_cases k1 : hi = lo + 1
    · have hlo := hok.1
      have hhi := hok.2.2
      rcases Int.lt_or_le x lo with k2 | k2
      · have f : ¬ fits lo hi a b := by rw [F]; intro z; exact absurd z.2.2.1 (by omega)
        rw [if_neg f] at e1 e2
        subst e1 e2
        clear F f
        subst k1
        clear hok
        go_enter Try.func10, Try.ntmps10
        go_wp2_with (first | (go_at_call 27; refine (rclip_any a _ Ha.out.1 Ha.out.2).mono ?_; rintro e w' ⟨rfl, rfl⟩; rw [Hx.out]) | (go_at_call 27; refine (rclip_any b _ Hb.out.1 Hb.out.2).mono ?_; rintro e w' ⟨rfl, rfl⟩; rw [Hy.out]) | (go_at_call 12; refine (rcheck_ok lo _ _ H.out).mono ?_; rintro e w' ⟨rfl, rfl⟩))
        exact bodyPost_ret (v := .tuple #[.agg #[.bool false, .int .i64 0, .int .i64 0, .int .i64 0], .int .i64 210]) (by simp [results, Try.results10, go_sem]) rfl ⟨rfl, rfl⟩
      · rcases Int.lt_or_le y lo with k3 | k3
        · have f : ¬ fits lo hi a b := by rw [F]; intro z; exact absurd z.2.2.2 (by omega)
          rw [if_neg f] at e1 e2
          subst e1 e2
          clear F f
          subst k1
          clear hok
          go_enter Try.func10, Try.ntmps10
          go_wp2_with (first | (go_at_call 27; refine (rclip_any a _ Ha.out.1 Ha.out.2).mono ?_; rintro e w' ⟨rfl, rfl⟩; rw [Hx.out]) | (go_at_call 27; refine (rclip_any b _ Hb.out.1 Hb.out.2).mono ?_; rintro e w' ⟨rfl, rfl⟩; rw [Hy.out]) | (go_at_call 12; refine (rcheck_ok lo _ _ H.out).mono ?_; rintro e w' ⟨rfl, rfl⟩))
          exact bodyPost_ret (v := .tuple #[.agg #[.bool false, .int .i64 0, .int .i64 0, .int .i64 0], .int .i64 210]) (by simp [results, Try.results10, go_sem]) rfl ⟨rfl, rfl⟩
        · have f : fits lo hi a b := F.2 ⟨hok, k1, k2, k3⟩
          rw [if_pos f] at e1 e2
          subst e1 e2
          clear F f hok
          subst k1
          have hz : lo = y ∨ lo < y := by omega
          clear k3
          rcases hz with rfl | hz
          · rw [show decide (lo < lo) = false by simp]
            go_enter Try.func10, Try.ntmps10
            go_wp2_with (first | (go_at_call 27; refine (rclip_any a _ Ha.out.1 Ha.out.2).mono ?_; rintro e w' ⟨rfl, rfl⟩; rw [Hx.out]) | (go_at_call 27; refine (rclip_any b _ Hb.out.1 Hb.out.2).mono ?_; rintro e w' ⟨rfl, rfl⟩; rw [Hy.out]) | (go_at_call 12; refine (rcheck_ok lo _ _ H.out).mono ?_; rintro e w' ⟨rfl, rfl⟩))
            exact bodyPost_ret (v := .tuple #[.agg #[.bool false, .int .i64 lo, .int .i64 (lo + 1), .int .i64 x], .int .i64 0]) (by simp [results, Try.results10, go_sem]) rfl ⟨rfl, rfl⟩
          · rw [show decide (lo < y) = true by simp; omega]
            go_enter Try.func10, Try.ntmps10
            go_wp2_with (first | (go_at_call 27; refine (rclip_any a _ Ha.out.1 Ha.out.2).mono ?_; rintro e w' ⟨rfl, rfl⟩; rw [Hx.out]) | (go_at_call 27; refine (rclip_any b _ Hb.out.1 Hb.out.2).mono ?_; rintro e w' ⟨rfl, rfl⟩; rw [Hy.out]) | (go_at_call 12; refine (rcheck_ok lo _ _ H.out).mono ?_; rintro e w' ⟨rfl, rfl⟩))
            exact bodyPost_ret (v := .tuple #[.agg #[.bool true, .int .i64 lo, .int .i64 (lo + 1), .int .i64 x], .int .i64 0]) (by simp [results, Try.results10, go_sem]) rfl ⟨rfl, rfl⟩
    · have f : ¬ fits lo hi a b := fun z => k1 z.2.1
      rw [if_neg f] at e1 e2
      subst e1 e2
      clear F f
      have hok' := hok
      obtain ⟨h2, h3, h4⟩ := hok'
      clear hok
      have hne : hi - lo ≠ 1 := by omega
      have hb : (hi - lo == 1) = false := by simpa using hne
      clear hne
      go_enter Try.func10, Try.ntmps10
      go_wp2_with (first | (go_at_call 27; refine (rclip_any a _ Ha.out.1 Ha.out.2).mono ?_; rintro e w' ⟨rfl, rfl⟩; rw [Hx.out]) | (go_at_call 27; refine (rclip_any b _ Hb.out.1 Hb.out.2).mono ?_; rintro e w' ⟨rfl, rfl⟩; rw [Hy.out]) | (go_at_call 12; refine (rcheck_ok lo _ _ H.out).mono ?_; rintro e w' ⟨rfl, rfl⟩))
      exact bodyPost_ret (v := .tuple #[.agg #[.bool false, .int .i64 0, .int .i64 0, .int .i64 0], .int .i64 210]) (by simp [results, Try.results10, go_sem]) rfl ⟨rfl, rfl⟩
  · have f : ¬ fits lo hi a b := fun z => hok z.1
    rw [if_neg f] at e1 e2
    subst e1 e2
    clear F f
    have H := Lib.hid hok
    clear hok
    go_enter Try.func10, Try.ntmps10
    go_wp2_with (first | (go_at_call 27; refine (rclip_any a _ Ha.out.1 Ha.out.2).mono ?_; rintro e w' ⟨rfl, rfl⟩; rw [Hx.out]) | (go_at_call 27; refine (rclip_any b _ Hb.out.1 Hb.out.2).mono ?_; rintro e w' ⟨rfl, rfl⟩; rw [Hy.out]) | (go_at_call 12; refine (rcheck_no lo _ _ H.out).mono ?_; rintro e w' ⟨rfl, rfl⟩))
    exact bodyPost_ret (v := .tuple #[.agg #[.bool false, .int .i64 0, .int .i64 0, .int .i64 0], .int .i64 210]) (by simp [results, Try.results10, go_sem]) rfl ⟨rfl, rfl⟩
end Go.Proofs.Ytinkcffkhbaleaa
