import Derived.Test.YtinkcffkhbaleaaX
import Derived.Test.YtinkcffkhbaleaaD
import Derived.Deep.RegionHeld3
import Derived.Laws.StructEq
/-! SearchSteps. -/
namespace Go.Proofs.Ytinkcffkhbaleaa
open Go.RowKit
set_option linter.unusedVariables false
set_option linter.unusedSimpArgs false

set_option maxRecDepth 100000 in
set_option maxHeartbeats 4000000 in
theorem steps_any (lo hi q : Int) (al : Bool) (w : World) (hl : -9223372036854775808 ≤ lo ∧ lo ≤ 9223372036854775807) (hh : -9223372036854775808 ≤ hi ∧ hi ≤ 9223372036854775807) (hq : -9223372036854775808 ≤ q ∧ q ≤ 9223372036854775807) :
    Calls Try.prog 4 #[spanV lo hi, .int .i64 q, .bool al] w fun e w' => e = .returned (.bool true) ∧ Below w.heap.size w w' := by
  obtain ⟨A, ok, hA⟩ : ∃ A ok, askV (askS lo hi) = .tuple #[.int .i64 A, .bool ok] := by cases askS lo hi <;> exact ⟨_, _, rfl⟩
  obtain ⟨⟨t0, t1⟩, hT⟩ : ∃ P, toldS lo hi q al = P := ⟨_, rfl⟩
  obtain ⟨M, hM⟩ : ∃ M, mostS lo hi = M := ⟨_, rfl⟩
  have AK : ∀ w, Calls Try.prog 16 #[spanV lo hi] w fun e w' => e = .returned (.tuple #[.int .i64 A, .bool ok]) ∧ (w.alloc (spanO lo hi)).alloc (spanO lo hi) = w' := by
    intro w
    have := ask_any lo hi w
    rwa [hA] at this
  have RAK : ∀ w, Calls Try.prog 17 #[spanV lo hi] w fun e w' => e = .returned (.tuple #[.int .i64 A, .bool ok]) ∧ (w.alloc (spanO lo hi)).alloc (spanO lo hi) = w' := by
    intro w
    have := rask_any lo hi w
    rwa [hA] at this
  have TD : ∀ w, Calls Try.prog 18 #[spanV lo hi, .int .i64 q, .bool al] w fun e w' => e = .returned (spanV t0 t1) ∧ ((w.alloc (spanO t0 t1)).alloc (spanO t0 t1)).alloc (spanO lo hi) = w' := by
    intro w
    have := told_any lo hi q al w
    rwa [hT] at this
  have RTD : ∀ w, Calls Try.prog 19 #[spanV lo hi, .int .i64 q, .bool al] w fun e w' => e = .returned (spanV t0 t1) ∧ ((w.alloc (spanO lo hi)).alloc (spanO t0 t1)).alloc (spanO lo hi) = w' := by
    intro w
    have := rtold_any lo hi q al w
    rwa [hT] at this
  have MT : ∀ w, Calls Try.prog 20 #[spanV lo hi] w fun e w' => e = .returned (.int .i64 M) ∧ (w.alloc (spanO lo hi)).alloc (spanO lo hi) = w' := by
    intro w
    have := most_any lo hi w
    rwa [hM] at this
  have RMT : ∀ w, Calls Try.prog 21 #[spanV lo hi] w fun e w' => e = .returned (.int .i64 M) ∧ (w.alloc (spanO lo hi)).alloc (spanO lo hi) = w' := by
    intro w
    have := rmost_any lo hi w
    rwa [hM] at this
  replace AK := Lib.hid AK
  replace RAK := Lib.hid RAK
  replace TD := Lib.hid TD
  replace RTD := Lib.hid RTD
  replace MT := Lib.hid MT
  replace RMT := Lib.hid RMT
  clear hA hT hM hq hl hh
  go_enter Try.func4, Try.ntmps4
  go_wp2_with (first | (go_at_call 16; refine (AK.out _).mono ?_; rintro e w' ⟨rfl, rfl⟩) | (go_at_call 17; refine (RAK.out _).mono ?_; rintro e w' ⟨rfl, rfl⟩))
  obtain ⟨W, hW⟩ : ∃ W, W = ((((w.alloc (spanO lo hi)).alloc (spanO lo hi)).alloc (spanO lo hi)).alloc (spanO lo hi)).alloc (spanO lo hi) := ⟨_, rfl⟩
  have bel : Below w.heap.size w W := by
    rw [hW]
    repeat first | exact Below.refl _ _ | refine Below.alloc ?_ (by simp [Nat.add_assoc]) _
  have c0 : W.cell? ⟨w.heap.size, 0, none⟩ = some (.int .i64 lo) := by rw [hW]; simp [go_sem]
  have c1 : W.cell? ⟨w.heap.size, 1, none⟩ = some (.int .i64 hi) := by rw [hW]; simp [go_sem]
  rw [← hW]
  clear hW
  have n1 := World.new_ne W _ c0
  go_region_held3 (fun w' => (w'.cell? ⟨w.heap.size, 0, none⟩ = some (.int .i64 lo) ∧ w'.cell? ⟨w.heap.size, 1, none⟩ = some (.int .i64 hi))) (with_reducible repeat' first | assumption | apply And.intro | apply keepA | apply keepD | refine keepB (by assumption) ?_)
    (first | (go_at_call 18; refine (TD.out _).mono ?_; rintro e w' ⟨rfl, rfl⟩) | (go_at_call 19; refine (RTD.out _).mono ?_; rintro e w' ⟨rfl, rfl⟩) | (go_at_call 20; refine (MT.out _).mono ?_; rintro e w' ⟨rfl, rfl⟩) | (go_at_call 21; refine (RMT.out _).mono ?_; rintro e w' ⟨rfl, rfl⟩) | (go_at_call 15; refine (awake_any _).mono ?_; rintro e w2 ⟨rfl, bel2⟩))
  have bs := bel.size
  go_wp2
  go_ret
  refine ⟨rfl, Below.trans ?_ (bel2.mono (by simp [World.drew]; omega))⟩
  repeat first | exact bel | refine Below.drew ?_ | refine Below.alloc ?_ (by first | exact bs | (simp; omega)) _
end Go.Proofs.Ytinkcffkhbaleaa
