import Derived.Test.YtpdigpfjmpaooaaD
/-! Cuts where there are none; the law's own helpers. -/
namespace Go.Proofs.Ytpdigpfjmpaooaa
open Go.RowKit
set_option linter.unusedVariables false
set_option linter.unusedSimpArgs false
theorem cuts_bad (le mo bi : Int) (v : Value) (w : World) (hok : ¬ okC le mo bi) : Calls Try.prog 13 #[confV le mo bi, v] w fun e w' => e = .returned (.tuple #[.slice none 0 0, .int .i64 80]) ∧ Below w.heap.size w w' := by
  have HC := Lib.hid (show checkC le mo bi = 80 by rw [checkC, if_neg hok])
  clear hok
  go_enter Try.func13, Try.ntmps13
  go_wp2_with (go_at_call 17; refine (check_any le mo bi _).mono ?_; rintro e w' ⟨rfl, rfl⟩; rw [HC.out])
  go_ret2
  exact ⟨rfl, ((Below.refl _ _).alloc (Nat.le_refl _) _).alloc (by simp) _⟩
theorem rcuts_bad (le mo bi : Int) (v : Value) (w : World) (hok : ¬ okC le mo bi) : Calls Try.prog 14 #[confV le mo bi, v] w fun e w' => e = .returned (.tuple #[.slice none 0 0, .int .i64 80]) ∧ Below w.heap.size w w' := by
  have HC := Lib.hid (show checkC le mo bi = 80 by rw [checkC, if_neg hok])
  clear hok
  go_enter Try.func14, Try.ntmps14
  go_wp2_with (go_at_call 16; refine (rcheck_any le mo bi _).mono ?_; rintro e w' ⟨rfl, rfl⟩; rw [HC.out])
  go_ret2
  exact ⟨rfl, ((Below.refl _ _).alloc (Nat.le_refl _) _).alloc (by simp) _⟩
theorem cuts_long (le mo bi : Int) (A : Option Addr) (n c : Nat) (w : World) (hok : okC le mo bi) (hn : 1048576 < n) : Calls Try.prog 13 #[confV le mo bi, .slice A n c] w fun e w' => e = .returned (.tuple #[.slice none 0 0, .int .i64 2]) ∧ Below w.heap.size w w' := by
  have HC := Lib.hid (show checkC le mo bi = 0 by rw [checkC, if_pos hok])
  clear hok
  go_enter Try.func13, Try.ntmps13
  go_wp2_with (go_at_call 17; refine (check_any le mo bi _).mono ?_; rintro e w' ⟨rfl, rfl⟩; rw [HC.out])
  go_ret2
  exact ⟨rfl, ((Below.refl _ _).alloc (Nat.le_refl _) _).alloc (by simp) _⟩
theorem rcuts_long (le mo bi : Int) (A : Option Addr) (n c : Nat) (w : World) (hok : okC le mo bi) (hn : 1048576 < n) : Calls Try.prog 14 #[confV le mo bi, .slice A n c] w fun e w' => e = .returned (.tuple #[.slice none 0 0, .int .i64 2]) ∧ Below w.heap.size w w' := by
  have HC := Lib.hid (show checkC le mo bi = 0 by rw [checkC, if_pos hok])
  clear hok
  go_enter Try.func14, Try.ntmps14
  go_wp2_with (go_at_call 16; refine (rcheck_any le mo bi _).mono ?_; rintro e w' ⟨rfl, rfl⟩; rw [HC.out])
  go_ret2
  exact ⟨rfl, ((Below.refl _ _).alloc (Nat.le_refl _) _).alloc (by simp) _⟩
theorem cut_any (l : List (BitVec 8)) (A : Option Addr) (c : Nat) (w : World) (hl : l.length ≤ c) (hm : l.length ≤ 9223372036854775807) :
    Calls Try.prog 10 #[.slice A l.length c] w fun e w' => e = .returned (.slice A (l.take 8192).length c) ∧ w = w' := by
  by_cases hlt : 8192 < l.length
  · have e : (l.take 8192).length = 8192 := by rw [List.length_take]; omega
    rw [e]
    go_enter Try.func10, Try.ntmps10
    go_wp2
    go_ret
    exact ⟨rfl, rfl⟩
  · have e : (l.take 8192).length = l.length := by rw [List.length_take]; omega
    rw [e]
    go_enter Try.func10, Try.ntmps10
    go_wp2
    go_ret
    exact ⟨rfl, rfl⟩
/-- A row of numbers that may be read. -/
def RdI (w : World) (v : Value) (l : List Nat) : Prop := ∃ A c, v = .slice A l.length c ∧ l.length ≤ c ∧ RdR (fun x v => v = Value.int .i64 ((x : Nat) : Int)) w A l
theorem RdI.nil (w : World) : RdI w (.slice none 0 0) [] := ⟨none, 0, rfl, by simp, by simp, fun j hj => by simp at hj⟩
theorem RdI.own {w : World} {base n : Nat} {e : TypeId} {v : Value} {l : List Nat} (h : w.ownsRow base e 1 v n (numsV l)) : RdI w v l := by
  have hl : l.length = n := by have := h.1; simpa [numsV] using this
  rcases Joins.ownsRow_forms h with ⟨rfl, h0⟩ | ⟨g, cap, rfl⟩
  · obtain rfl : l = [] := List.eq_nil_of_length_eq_zero (by omega)
    exact RdI.nil w
  · have hm : n ≤ maxLen := by
      rcases h.2 with ⟨_, h1⟩ | ⟨g', cap', cur, he, _, _, h1, h2, _⟩
      · omega
      · simp only [Value.slice.injEq] at he; omega
    refine ⟨_, cap, by rw [hl], by rw [hl]; exact own_cap h, by rw [hl]; exact hm, fun j hj => ⟨_, _, rfl, h.cells (g := g) rfl j _ ?_, rfl⟩⟩
    simp [numsV, List.getElem?_eq_getElem hj]
theorem RdI.below {w w' : World} {v : Value} {l : List Nat} (h : RdI w v l) (hb : Below w.heap.size w w') : RdI w' v l := by
  obtain ⟨A, c, rfl, hc, hr⟩ := h
  exact ⟨A, c, rfl, hc, RdR.below hr hb (fun _ _ h => h)⟩
def seven : List (BitVec 8) := [49, 50, 51, 52, 53, 54, 55]
theorem seven_cuts : cutsL 2 3 0 seven = [2, 2, 2, 1] := by kernel_rfl
theorem wpList_build_at {P : Program} {ops : Array Oper} {rest : List Oper} {o : Oper} {a : Act} {w : World} {Q : Exit → Act → World → Prop} (hgd : o.guard = none) (t : TypeId) (parts : Array (Nat × Operand)) (ho : o.op = .build t parts) (cells : Array Value)
    (hc : P.built t (parts.map fun (i, x) => (i, a.eval x)).toList = some cells) (h : wpList P ops Q rest (a.put o.dst (.agg cells)) w) : wpList P ops Q (o :: rest) a w :=
  wpList_plain hgd fun K hK => by
    unfold Oper.wp execOp
    simp only [ho, Sem.run_bind, run_build w t _ cells hc, Result.andThen_ok]
    exact hK _ _ h
set_option maxRecDepth 100000 in
set_option maxHeartbeats 4000000 in
theorem awake_any (w : World) : Calls Try.prog 15 #[] w fun e w' => e = .returned (.bool true) ∧ Below w.heap.size w w' := by
  have CU := fun w A hr => cuts_ok 2 3 0 seven A 7 w (by unfold okC; omega) hr (by decide) (by decide)
  rw [seven_cuts] at CU
  replace CU := Lib.hid CU
  have G1 := fun w => gear_any 0 w
  have G2 := fun w => rgear_any 0 w
  generalize gearN (0 : BitVec 8).toNat = G at *
  replace G1 := Lib.hid G1
  replace G2 := Lib.hid G2
  have bA : Below w.heap.size w (w.alloc (.cells #[.int .u8 49, .int .u8 50, .int .u8 51, .int .u8 52, .int .u8 53, .int .u8 54, .int .u8 55] 5 (7, 8))) := (Below.refl _ _).alloc (Nat.le_refl _) _
  have rA : RdB (w.alloc (.cells #[.int .u8 49, .int .u8 50, .int .u8 51, .int .u8 52, .int .u8 53, .int .u8 54, .int .u8 55] 5 (7, 8))) (some ⟨w.heap.size, 0, none⟩) seven := RdB.new' w seven _ 5 _ (by decide) rfl
  have kc := Lib.run_convert_bytes_const (P := Try.prog) w 24 5 #[.int .u8 49, .int .u8 50, .int .u8 51, .int .u8 52, .int .u8 53, .int .u8 54, .int .u8 55] 7 7 Try.underlying24 Try.underlying5
  go_enter Try.func15, Try.ntmps15
  go_wp2_with (first | (refine wpList_build_at rfl 23 _ rfl #[.int .i64 2, .int .i64 3, .int .i64 0] (by kernel_rfl) ?_) | (go_at_call 13; refine (CU.out _ _ rA).mono ?_; rintro e w1 ⟨v, rfl, own, b1⟩; obtain ⟨g, cap, hv⟩ := Joins.ownsRow_form own (by decide); rw [hv] at own ⊢; have l0 : w1.cell? ⟨g, 0, none⟩ = some (.int .i64 2) := own.cells (g := g) rfl 0 _ rfl; have l3 : w1.cell? ⟨g, 3, none⟩ = some (.int .i64 1) := own.cells (g := g) rfl 3 _ rfl) | (go_at_call 18; refine (G1.out _).mono ?_; rintro e w' ⟨rfl, rfl⟩) | (go_at_call 19; refine (G2.out _).mono ?_; rintro e w' ⟨rfl, rfl⟩))
  go_ret
  exact ⟨rfl, bA.trans (b1.mono bA.size)⟩
end Go.Proofs.Ytpdigpfjmpaooaa
