import Derived.Test.YtinkcffkhbaleaaX
/-! awake: a search of two questions. -/
namespace Go.Proofs.Ytinkcffkhbaleaa
open Go.RowKit
set_option linter.unusedVariables false
set_option linter.unusedSimpArgs false

set_option maxRecDepth 100000 in
set_option maxHeartbeats 4000000 in
theorem awake_any (w : World) : Calls Try.prog 15 #[] w fun e w' => e = .returned (.bool true) ∧ Below w.heap.size w w' := by
  have G1 : begHi 5 9 = 6 := rfl
  have A1 : askV (askS 0 6) = .tuple #[.int .i64 3, .bool true] := rfl
  have A2 : askV (askS 3 6) = .tuple #[.int .i64 4, .bool true] := rfl
  have A3 : askV (askS 3 4) = .tuple #[.int .i64 0, .bool false] := rfl
  have T1 : toldS 0 6 3 true = (3, 6) := rfl
  have T2 : toldS 3 6 4 false = (3, 4) := rfl
  have P1 : (makeP 3 4 5 9).cells = #[.bool true, .int .i64 3, .int .i64 4, .int .i64 5] := rfl
  have E1 : makeE 3 4 5 9 = 0 := rfl
  replace G1 := Lib.hid G1
  replace A1 := Lib.hid A1
  replace A2 := Lib.hid A2
  replace A3 := Lib.hid A3
  replace T1 := Lib.hid T1
  replace T2 := Lib.hid T2
  replace P1 := Lib.hid P1
  replace E1 := Lib.hid E1
  go_enter Try.func15, Try.ntmps15
  go_wp2_with (first | (go_at_call 13; refine (begin_any _ _ _ (by omega) (by omega)).mono ?_; rintro e w' ⟨rfl, rfl⟩; rw [G1.out]) | (go_at_call 16; refine (ask_any _ _ _).mono ?_; rintro e w' ⟨rfl, rfl⟩; first | rw [A1.out] | rw [A2.out] | rw [A3.out]) | (go_at_call 18; refine (told_any _ _ _ _ _).mono ?_; rintro e w' ⟨rfl, rfl⟩; first | rw [T1.out] | rw [T2.out]) | (go_at_call 9; refine (make_any _ _ _ _ _ (by omega) (by omega)).mono ?_; rintro e w' ⟨rfl, rfl⟩; rw [P1.out, E1.out]))
  go_ret
  refine ⟨rfl, ?_⟩
  repeat first | exact Below.refl _ _ | refine Below.alloc ?_ (by simp [Nat.add_assoc]) _
end Go.Proofs.Ytinkcffkhbaleaa
