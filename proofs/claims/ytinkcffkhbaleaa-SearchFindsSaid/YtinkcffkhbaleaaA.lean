import Derived.Test.YtinkcffkhbaleaaM
/-! Begin, Ask, Told: the program's and the reference's. -/
namespace Go.Proofs.Ytinkcffkhbaleaa
open Go.RowKit
set_option linter.unusedVariables false
set_option linter.unusedSimpArgs false

/-- The block that holds a span. -/
abbrev spanO (lo hi : Int) : Obj := .cells #[.int .i64 lo, .int .i64 hi] 23
def begHi (a b : Int) : Int := (if clipZ a ≤ clipZ b then clipZ a else clipZ b) + 1
theorem begHi_range (a b : Int) : 1 ≤ begHi a b ∧ begHi a b ≤ 1073741825 := by
  have := clip_range a; have := clip_range b
  unfold begHi; split <;> omega

theorem begin_any (a b : Int) (w : World) (ha : -9223372036854775808 ≤ a ∧ a ≤ 9223372036854775807) (hb : -9223372036854775808 ≤ b ∧ b ≤ 9223372036854775807) :
    Calls Try.prog 13 #[.int .i64 a, .int .i64 b] w fun e w' => e = .returned (spanV 0 (begHi a b)) ∧ w.alloc (spanO 0 (begHi a b)) = w' := by
  have e : begHi a b = (if clipZ a ≤ clipZ b then clipZ a else clipZ b) + 1 := rfl
  obtain ⟨x, hx⟩ : ∃ x, clipZ a = x := ⟨_, rfl⟩
  obtain ⟨y, hy⟩ : ∃ y, clipZ b = y := ⟨_, rfl⟩
  have rx := clip_range a
  have ry := clip_range b
  have Ha := Lib.hid ha
  have Hb := Lib.hid hb
  rw [hx] at rx e
  rw [hy] at ry e
  have Hx := Lib.hid hx
  have Hy := Lib.hid hy
  clear hx hy ha hb
  rw [e]
  have hz : x < y ∨ x = y ∨ y < x := by omega
  rcases hz with hz | rfl | hz
  · rw [if_pos (by omega)]
    clear e
    go_enter Try.func13, Try.ntmps13
    go_wp2_with (first | (go_at_call 25; refine (clip_any a _ Ha.out.1 Ha.out.2).mono ?_; rintro e w' ⟨rfl, rfl⟩; rw [Hx.out]) | (go_at_call 25; refine (clip_any b _ Hb.out.1 Hb.out.2).mono ?_; rintro e w' ⟨rfl, rfl⟩; rw [Hy.out]))
    exact bodyPost_ret (v := spanV 0 (x + 1)) (by simp [results, Try.results13, go_sem]) rfl ⟨rfl, rfl⟩
  · rw [if_pos (by omega)]
    clear e
    go_enter Try.func13, Try.ntmps13
    go_wp2_with (first | (go_at_call 25; refine (clip_any a _ Ha.out.1 Ha.out.2).mono ?_; rintro e w' ⟨rfl, rfl⟩; rw [Hx.out]) | (go_at_call 25; refine (clip_any b _ Hb.out.1 Hb.out.2).mono ?_; rintro e w' ⟨rfl, rfl⟩; rw [Hy.out]))
    exact bodyPost_ret (v := spanV 0 (x + 1)) (by simp [results, Try.results13, go_sem]) rfl ⟨rfl, rfl⟩
  · rw [if_neg (by omega)]
    clear e
    go_enter Try.func13, Try.ntmps13
    go_wp2_with (first | (go_at_call 25; refine (clip_any a _ Ha.out.1 Ha.out.2).mono ?_; rintro e w' ⟨rfl, rfl⟩; rw [Hx.out]) | (go_at_call 25; refine (clip_any b _ Hb.out.1 Hb.out.2).mono ?_; rintro e w' ⟨rfl, rfl⟩; rw [Hy.out]))
    exact bodyPost_ret (v := spanV 0 (y + 1)) (by simp [results, Try.results13, go_sem]) rfl ⟨rfl, rfl⟩

/-- What is asked of a span. -/
def askS (lo hi : Int) : Option Int := if okS lo hi ∧ hi ≠ lo + 1 then some (lo + (hi - lo).tdiv 2) else none
def askV : Option Int → Value
  | some q => .tuple #[.int .i64 q, .bool true]
  | none => .tuple #[.int .i64 0, .bool false]
theorem ask_no (lo hi : Int) (w : World) (h : ¬ okS lo hi) : Calls Try.prog 16 #[spanV lo hi] w fun e w' => e = .returned (.tuple #[.int .i64 0, .bool false]) ∧ (w.alloc (spanO lo hi)).alloc (spanO lo hi) = w' := by
  have H := Lib.hid h; clear h
  go_enter Try.func16, Try.ntmps16
  go_wp2_with (go_at_call 26; refine (may_no lo hi _ H.out).mono ?_; rintro e w' ⟨rfl, rfl⟩)
  go_ret2
  exact ⟨rfl, rfl⟩
theorem ask_one (lo hi : Int) (w : World) (h : okS lo hi) (h1 : hi = lo + 1) : Calls Try.prog 16 #[spanV lo hi] w fun e w' => e = .returned (.tuple #[.int .i64 0, .bool false]) ∧ (w.alloc (spanO lo hi)).alloc (spanO lo hi) = w' := by
  have H := Lib.hid h
  obtain ⟨h2, h3, h4⟩ := h
  have hb : (hi == lo + 1) = true := by simpa using h1
  have Hq := Lib.hid h1; clear h1
  go_enter Try.func16, Try.ntmps16
  go_wp2_with (go_at_call 26; refine (may_ok lo hi _ H.out).mono ?_; rintro e w' ⟨rfl, rfl⟩)
  go_ret2
  exact ⟨rfl, rfl⟩
theorem ask_yes (lo hi : Int) (w : World) (h : okS lo hi) (h1 : hi ≠ lo + 1) : Calls Try.prog 16 #[spanV lo hi] w fun e w' => e = .returned (.tuple #[.int .i64 (lo + (hi - lo).tdiv 2), .bool true]) ∧ (w.alloc (spanO lo hi)).alloc (spanO lo hi) = w' := by
  have H := Lib.hid h
  obtain ⟨h2, h3, h4⟩ := h
  have hb : (hi == lo + 1) = false := by simpa using h1
  have Hq := Lib.hid h1; clear h1
  obtain ⟨q, hq⟩ : ∃ q, (hi - lo).tdiv 2 = q := ⟨_, rfl⟩
  have q0 : 0 ≤ q := by rw [← hq]; exact Int.tdiv_nonneg (by omega) (by omega)
  have q1 : q ≤ 1073741825 := by
    rw [← hq, Int.tdiv_eq_ediv_of_nonneg (by omega)]; omega
  rw [hq]
  go_enter Try.func16, Try.ntmps16
  go_wp2_with (go_at_call 26; refine (may_ok lo hi _ H.out).mono ?_; rintro e w' ⟨rfl, rfl⟩)
  go_ret2
  exact ⟨rfl, rfl⟩
theorem ask_any (lo hi : Int) (w : World) : Calls Try.prog 16 #[spanV lo hi] w fun e w' => e = .returned (askV (askS lo hi)) ∧ (w.alloc (spanO lo hi)).alloc (spanO lo hi) = w' := by
  by_cases h : okS lo hi
  · by_cases h1 : hi = lo + 1
    · rw [show askS lo hi = none by simp [askS, h1]]; exact ask_one lo hi w h h1
    · rw [show askS lo hi = some (lo + (hi - lo).tdiv 2) by simp [askS, h, h1]]; exact ask_yes lo hi w h h1
  · rw [show askS lo hi = none by simp [askS, h]]; exact ask_no lo hi w h
/-- What is known behind an answer. -/
def toldS (lo hi q : Int) (al : Bool) : Int × Int := if okS lo hi ∧ lo < q ∧ q < hi then (if al then (q, hi) else (lo, q)) else (lo, hi)
theorem told_no (lo hi q : Int) (al : Bool) (w : World) (h : ¬ (okS lo hi ∧ lo < q ∧ q < hi)) : Calls Try.prog 18 #[spanV lo hi, .int .i64 q, .bool al] w fun e w' =>
    e = .returned (spanV lo hi) ∧ ((w.alloc (spanO lo hi)).alloc (spanO lo hi)).alloc (spanO lo hi) = w' := by
  by_cases h0 : okS lo hi
  · have hq : q ≤ lo ∨ hi ≤ q := by
      rcases Int.lt_or_le lo q with a | a
      · exact .inr (Int.not_lt.1 fun x => h ⟨h0, a, x⟩)
      · exact .inl a
    have H := Lib.hid h0; clear h0 h
    rcases Int.lt_or_le lo q with h1 | h1
    · have h2 : hi ≤ q := by omega
      clear hq
      go_enter Try.func18, Try.ntmps18
      go_wp2_with (go_at_call 26; refine (may_ok lo hi _ H.out).mono ?_; rintro e w' ⟨rfl, rfl⟩)
      exact bodyPost_ret (v := spanV lo hi) (by simp [results, Try.results18, go_sem]) rfl ⟨rfl, rfl⟩
    · clear hq
      go_enter Try.func18, Try.ntmps18
      go_wp2_with (go_at_call 26; refine (may_ok lo hi _ H.out).mono ?_; rintro e w' ⟨rfl, rfl⟩)
      exact bodyPost_ret (v := spanV lo hi) (by simp [results, Try.results18, go_sem]) rfl ⟨rfl, rfl⟩
  · have H := Lib.hid h0; clear h0 h
    go_enter Try.func18, Try.ntmps18
    go_wp2_with (go_at_call 26; refine (may_no lo hi _ H.out).mono ?_; rintro e w' ⟨rfl, rfl⟩)
    exact bodyPost_ret (v := spanV lo hi) (by simp [results, Try.results18, go_sem]) rfl ⟨rfl, rfl⟩
theorem told_up (lo hi q : Int) (w : World) (h : okS lo hi) (h1 : lo < q) (h2 : q < hi) : Calls Try.prog 18 #[spanV lo hi, .int .i64 q, .bool true] w fun e w' =>
    e = .returned (spanV q hi) ∧ ((w.alloc (spanO q hi)).alloc (spanO q hi)).alloc (spanO lo hi) = w' := by
  have H := Lib.hid h; clear h
  go_enter Try.func18, Try.ntmps18
  go_wp2_with (go_at_call 26; refine (may_ok lo hi _ H.out).mono ?_; rintro e w' ⟨rfl, rfl⟩)
  exact bodyPost_ret (v := spanV q hi) (by simp [results, Try.results18, go_sem]) rfl ⟨rfl, rfl⟩
theorem told_down (lo hi q : Int) (w : World) (h : okS lo hi) (h1 : lo < q) (h2 : q < hi) : Calls Try.prog 18 #[spanV lo hi, .int .i64 q, .bool false] w fun e w' =>
    e = .returned (spanV lo q) ∧ ((w.alloc (spanO lo q)).alloc (spanO lo q)).alloc (spanO lo hi) = w' := by
  have H := Lib.hid h; clear h
  go_enter Try.func18, Try.ntmps18
  go_wp2_with (go_at_call 26; refine (may_ok lo hi _ H.out).mono ?_; rintro e w' ⟨rfl, rfl⟩)
  exact bodyPost_ret (v := spanV lo q) (by simp [results, Try.results18, go_sem]) rfl ⟨rfl, rfl⟩
theorem told_any (lo hi q : Int) (al : Bool) (w : World) : Calls Try.prog 18 #[spanV lo hi, .int .i64 q, .bool al] w fun e w' =>
    e = .returned (spanV (toldS lo hi q al).1 (toldS lo hi q al).2) ∧ ((w.alloc (spanO (toldS lo hi q al).1 (toldS lo hi q al).2)).alloc (spanO (toldS lo hi q al).1 (toldS lo hi q al).2)).alloc (spanO lo hi) = w' := by
  by_cases h : okS lo hi ∧ lo < q ∧ q < hi
  · cases al
    · rw [show toldS lo hi q false = (lo, q) by simp [toldS, h]]; exact told_down lo hi q w h.1 h.2.1 h.2.2
    · rw [show toldS lo hi q true = (q, hi) by simp [toldS, h]]; exact told_up lo hi q w h.1 h.2.1 h.2.2
  · rw [show toldS lo hi q al = (lo, hi) by simp [toldS, h]]; exact told_no lo hi q al w h
end Go.Proofs.Ytinkcffkhbaleaa
