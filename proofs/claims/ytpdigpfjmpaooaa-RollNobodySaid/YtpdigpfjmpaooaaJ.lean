import Derived.Test.YtpdigpfjmpaooaaF
/-! RollNobody. -/
namespace Go.Proofs.Ytpdigpfjmpaooaa
open Go.RowKit
set_option linter.unusedVariables false
set_option linter.unusedSimpArgs false
/-- A pointer to a cutter that nobody made. -/
def Nobody (W : World) (p : Option Addr) : Prop := p = none ∨ ∃ g, p = some ⟨g, 0, none⟩ ∧ W.cell? ⟨g, 1, none⟩ = some (.int .i64 0)
theorem is_no (p : Option Addr) (w : World) (h : Nobody w p) : Calls Try.prog 33 #[.pointer p] w fun e w' => e = .returned (.bool false) ∧ w = w' := by
  rcases h with rfl | ⟨g, rfl, hc⟩
  · go_enter Try.func33, Try.ntmps33
    go_wp2
    go_ret
    exact ⟨rfl, rfl⟩
  · go_enter Try.func33, Try.ntmps33
    go_wp2
    go_ret
    exact ⟨rfl, rfl⟩
theorem write_no (p : Option Addr) (A : Option Addr) (n c : Nat) (w : World) (h : Nobody w p) : Calls Try.prog 24 #[.pointer p, .slice A n c] w fun e w' => e = .returned (.tuple #[.slice none 0 0, .int .i64 4]) ∧ w = w' := by
  go_enter Try.func24, Try.ntmps24
  go_wp2_with (go_at_call 33; refine (is_no p _ h).mono ?_; rintro e w' ⟨rfl, rfl⟩)
  go_ret2
  exact ⟨rfl, rfl⟩
theorem close_no (p : Option Addr) (w : World) (h : Nobody w p) : Calls Try.prog 25 #[.pointer p] w fun e w' => e = .returned (.tuple #[.slice none 0 0, .int .i64 4]) ∧ w = w' := by
  go_enter Try.func25, Try.ntmps25
  go_wp2_with (go_at_call 33; refine (is_no p _ h).mono ?_; rintro e w' ⟨rfl, rfl⟩)
  go_ret2
  exact ⟨rfl, rfl⟩
theorem left_no (p : Option Addr) (w : World) (h : Nobody w p) : Calls Try.prog 27 #[.pointer p] w fun e w' => e = .returned (.int .i64 0) ∧ w = w' := by
  go_enter Try.func27, Try.ntmps27
  go_wp2_with (go_at_call 33; refine (is_no p _ h).mono ?_; rintro e w' ⟨rfl, rfl⟩)
  go_ret
  exact ⟨rfl, rfl⟩
set_option maxRecDepth 100000 in
set_option maxHeartbeats 4000000 in
theorem nobody_any (l : List (BitVec 8)) (A : Option Addr) (cap : Nat) (w : World) (hr : RdB w A l) (hl : l.length ≤ cap) (_hs : l.length * 1 ≤ 140737488351232) :
    Calls Try.prog 7 #[.slice A l.length cap] w fun e w' => e = .returned (.bool true) ∧ Below w.heap.size w w' := by
  go_enter Try.func7, Try.ntmps7
  go_wp2_with (first | (refine wpList_build_at rfl 51 _ rfl #[.int .i64 0, .int .i64 0, .int .i64 0, .slice none 0 0] (by kernel_rfl) ?_))
  obtain ⟨W, hW⟩ : ∃ W, W = (w.alloc (Obj.cells #[Value.int IntKind.i64 0, Value.int IntKind.i64 0, Value.int IntKind.i64 0, Value.slice none 0 0] 51)).alloc (Obj.cells #[Value.pointer none, Value.pointer (some { block := w.heap.size, off := 0 })] 39) := ⟨_, rfl⟩
  have bel : Below w.heap.size w W := by rw [hW]; exact ((Below.refl _ _).alloc (Nat.le_refl _) _).alloc (by simp) _
  have c0 : W.cell? ⟨w.heap.size + 1, 0, none⟩ = some (.pointer none) := by rw [hW]; simp [go_sem]
  have c1 : W.cell? ⟨w.heap.size + 1, 1, none⟩ = some (.pointer (some ⟨w.heap.size, 0, none⟩)) := by rw [hW]; simp [go_sem]
  have z : W.cell? ⟨w.heap.size, 1, none⟩ = some (.int .i64 0) := by rw [hW]; simp [go_sem]
  have n0 : Nobody W none := Or.inl rfl
  have n1 : Nobody W (some ⟨w.heap.size, 0, none⟩) := Or.inr ⟨_, rfl, z⟩
  rw [← hW]
  clear hW z
  have N0 := Lib.hid n0
  have N1 := Lib.hid n1
  clear n0 n1
  have bs := bel.size
  go_loopw [15] (fun i wr => ∃ k : Nat, k ≤ 2 ∧ i = .int .i64 k ∧ wr = W) (fun i _ => 2 - (intOf i).toNat)
  case atStart => exact ⟨0, by omega, rfl, rfl⟩
  case round =>
    obtain ⟨k, hk, rfl, rfl⟩ := hrel
    have hk3 : k = 0 ∨ k = 1 ∨ k = 2 := by omega
    rcases hk3 with rfl | rfl | rfl
    · go_wp2_with (first | (go_at_call 24; refine (write_no none A _ _ _ N0.out).mono ?_; rintro e w' ⟨rfl, rfl⟩) | (go_at_call 25; refine (close_no none _ N0.out).mono ?_; rintro e w' ⟨rfl, rfl⟩) | (go_at_call 27; refine (left_no none _ N0.out).mono ?_; rintro e w' ⟨rfl, rfl⟩))
      go_roundw
      case rel => exact ⟨1, by omega, by first | rfl | go_num, trivial⟩
      case measure => simp [intOf]
    · go_wp2_with (first | (go_at_call 24; refine (write_no _ A _ _ _ N1.out).mono ?_; rintro e w' ⟨rfl, rfl⟩) | (go_at_call 25; refine (close_no _ _ N1.out).mono ?_; rintro e w' ⟨rfl, rfl⟩) | (go_at_call 27; refine (left_no _ _ N1.out).mono ?_; rintro e w' ⟨rfl, rfl⟩))
      go_roundw
      case rel => exact ⟨2, by omega, by first | rfl | go_num, trivial⟩
      case measure => simp [intOf]
    · go_wp2_with (go_at_call 15; refine (awake_any _).mono ?_; rintro e w5 ⟨rfl, b5⟩)
      go_ret
      exact ⟨rfl, bel.trans (b5.mono bs)⟩
end Go.Proofs.Ytpdigpfjmpaooaa
