import Derived.Test.YtinkcffkhbaleaaX
import Derived.Test.YtinkcffkhbaleaaD
import Derived.Deep.RegionHeld3
import Derived.Laws.StructEq
/-! SearchSpans. -/
namespace Go.Proofs.Ytinkcffkhbaleaa
open Go.RowKit
set_option linter.unusedVariables false
set_option linter.unusedSimpArgs false

set_option maxRecDepth 100000 in
set_option maxHeartbeats 4000000 in
theorem spans_any (lo hi a b : Int) (w : World) (hl : -9223372036854775808 ≤ lo ∧ lo ≤ 9223372036854775807) (hh : -9223372036854775808 ≤ hi ∧ hi ≤ 9223372036854775807) (ha : -9223372036854775808 ≤ a ∧ a ≤ 9223372036854775807) (hb : -9223372036854775808 ≤ b ∧ b ≤ 9223372036854775807) :
    Calls Try.prog 3 #[spanV lo hi, .int .i64 a, .int .i64 b] w fun e w' => e = .returned (.bool true) ∧ Below w.heap.size w w' := by
  obtain ⟨⟨pc, p1, p2, p3⟩, hP⟩ : ∃ P, makeP lo hi a b = P := ⟨_, rfl⟩
  obtain ⟨E, hE⟩ : ∃ E, makeE lo hi a b = E := ⟨_, rfl⟩
  obtain ⟨S, hS⟩ : ∃ S, saidS lo hi = S := ⟨_, rfl⟩
  obtain ⟨G, hG⟩ : ∃ G, begHi a b = G := ⟨_, rfl⟩
  have MP : ∀ w, Calls Try.prog 9 #[spanV lo hi, .int .i64 a, .int .i64 b] w fun e w' => e = .returned (.tuple #[.agg #[.bool pc, .int .i64 p1, .int .i64 p2, .int .i64 p3], .int .i64 E]) ∧
      ((w.alloc (spanO lo hi)).alloc (.cells #[.bool pc, .int .i64 p1, .int .i64 p2, .int .i64 p3] 25)).alloc (spanO lo hi) = w' := by
    intro w
    have := make_any lo hi a b w ha hb
    rwa [hP, hE] at this
  have RMP : ∀ w, Calls Try.prog 10 #[spanV lo hi, .int .i64 a, .int .i64 b] w fun e w' => e = .returned (.tuple #[.agg #[.bool pc, .int .i64 p1, .int .i64 p2, .int .i64 p3], .int .i64 E]) ∧
      ((w.alloc (spanO lo hi)).alloc (.cells #[.bool pc, .int .i64 p1, .int .i64 p2, .int .i64 p3] 25)).alloc (spanO lo hi) = w' := by
    intro w
    have := rmake_any lo hi a b w ha hb
    rwa [hP, hE] at this
  have CK : ∀ w, Calls Try.prog 11 #[spanV lo hi] w fun e w' => e = .returned (.int .i64 S) ∧ (w.alloc (spanO lo hi)).alloc (spanO lo hi) = w' := by
    intro w
    have := check_any lo hi w
    rwa [hS] at this
  have RCK : ∀ w, Calls Try.prog 12 #[spanV lo hi] w fun e w' => e = .returned (.int .i64 S) ∧ w.alloc (spanO lo hi) = w' := by
    intro w
    have := rcheck_any lo hi w
    rwa [hS] at this
  have BG : ∀ w, Calls Try.prog 13 #[.int .i64 a, .int .i64 b] w fun e w' => e = .returned (spanV 0 G) ∧ w.alloc (spanO 0 G) = w' := by
    intro w
    have := begin_any a b w ha hb
    rwa [hG] at this
  have RBG : ∀ w, Calls Try.prog 14 #[.int .i64 a, .int .i64 b] w fun e w' => e = .returned (spanV 0 G) ∧ w.alloc (spanO 0 G) = w' := by
    intro w
    have := rbegin_any a b w ha hb
    rwa [hG] at this
  replace MP := Lib.hid MP
  replace RMP := Lib.hid RMP
  replace CK := Lib.hid CK
  replace RCK := Lib.hid RCK
  replace BG := Lib.hid BG
  replace RBG := Lib.hid RBG
  clear hP hE hS hG ha hb hl hh
  go_enter Try.func3, Try.ntmps3
  go_wp2_with (first | (go_at_call 9; refine (MP.out _).mono ?_; rintro e w' ⟨rfl, rfl⟩) | (go_at_call 10; refine (RMP.out _).mono ?_; rintro e w' ⟨rfl, rfl⟩))
  obtain ⟨W, hW⟩ : ∃ W, W = ((((((((w.alloc (spanO lo hi)).alloc (spanO lo hi)).alloc (.cells #[.bool pc, .int .i64 p1, .int .i64 p2, .int .i64 p3] 25)).alloc (spanO lo hi)).alloc (.cells #[.bool pc, .int .i64 p1, .int .i64 p2, .int .i64 p3] 25)).alloc (spanO lo hi)).alloc (.cells #[.bool pc, .int .i64 p1, .int .i64 p2, .int .i64 p3] 25)).alloc (spanO lo hi)).alloc (.cells #[.bool pc, .int .i64 p1, .int .i64 p2, .int .i64 p3] 25) := ⟨_, rfl⟩
  have bel : Below w.heap.size w W := by
    rw [hW]
    repeat first | exact Below.refl _ _ | refine Below.alloc ?_ (by simp [Nat.add_assoc]) _
  have c0 : W.cell? ⟨w.heap.size, 0, none⟩ = some (.int .i64 lo) := by rw [hW]; simp [go_sem]
  have c1 : W.cell? ⟨w.heap.size, 1, none⟩ = some (.int .i64 hi) := by rw [hW]; simp [go_sem]
  have d0 : W.cell? ⟨w.heap.size + 4, 0, none⟩ = some (.bool pc) := by rw [hW]; simp [go_sem]
  have d1 : W.cell? ⟨w.heap.size + 4, 1, none⟩ = some (.int .i64 p1) := by rw [hW]; simp [go_sem]
  have d2 : W.cell? ⟨w.heap.size + 4, 2, none⟩ = some (.int .i64 p2) := by rw [hW]; simp [go_sem]
  have d3 : W.cell? ⟨w.heap.size + 4, 3, none⟩ = some (.int .i64 p3) := by rw [hW]; simp [go_sem]
  have e0 : W.cell? ⟨w.heap.size + 8, 0, none⟩ = some (.bool pc) := by rw [hW]; simp [go_sem]
  have e1 : W.cell? ⟨w.heap.size + 8, 1, none⟩ = some (.int .i64 p1) := by rw [hW]; simp [go_sem]
  have e2 : W.cell? ⟨w.heap.size + 8, 2, none⟩ = some (.int .i64 p2) := by rw [hW]; simp [go_sem]
  have e3 : W.cell? ⟨w.heap.size + 8, 3, none⟩ = some (.int .i64 p3) := by rw [hW]; simp [go_sem]
  rw [← hW]
  clear hW
  have n1 := World.new_ne W _ c0
  have n2 := World.new_ne W _ d0
  have n3 := World.new_ne W _ e0
  go_region_held3 (fun w' => (w'.cell? ⟨w.heap.size, 0, none⟩ = some (.int .i64 lo) ∧ w'.cell? ⟨w.heap.size, 1, none⟩ = some (.int .i64 hi)) ∧ w'.cell? ⟨w.heap.size + 4, 0, none⟩ = some (.bool pc) ∧ w'.cell? ⟨w.heap.size + 4, 1, none⟩ = some (.int .i64 p1) ∧ w'.cell? ⟨w.heap.size + 4, 2, none⟩ = some (.int .i64 p2) ∧ w'.cell? ⟨w.heap.size + 4, 3, none⟩ = some (.int .i64 p3) ∧
      w'.cell? ⟨w.heap.size + 8, 0, none⟩ = some (.bool pc) ∧ w'.cell? ⟨w.heap.size + 8, 1, none⟩ = some (.int .i64 p1) ∧ w'.cell? ⟨w.heap.size + 8, 2, none⟩ = some (.int .i64 p2) ∧ w'.cell? ⟨w.heap.size + 8, 3, none⟩ = some (.int .i64 p3)) (with_reducible repeat' first | assumption | apply And.intro | apply keepA | apply keepD | refine keepB (by assumption) ?_)
    (first | (go_at_call 11; refine (CK.out _).mono ?_; rintro e w' ⟨rfl, rfl⟩) | (go_at_call 12; refine (RCK.out _).mono ?_; rintro e w' ⟨rfl, rfl⟩) | (go_at_call 13; refine (BG.out _).mono ?_; rintro e w' ⟨rfl, rfl⟩) | (go_at_call 14; refine (RBG.out _).mono ?_; rintro e w' ⟨rfl, rfl⟩) | (go_at_call 15; refine (awake_any _).mono ?_; rintro e w2 ⟨rfl, bel2⟩))
  have bs := bel.size
  go_wp2
  go_ret
  refine ⟨rfl, Below.trans ?_ (bel2.mono (by simp [World.drew]; omega))⟩
  repeat first | exact bel | refine Below.drew ?_ | refine Below.alloc ?_ (by first | exact bs | (simp; omega)) _
end Go.Proofs.Ytinkcffkhbaleaa
