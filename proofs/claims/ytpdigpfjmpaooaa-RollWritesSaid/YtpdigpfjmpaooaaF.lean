import Derived.Test.YtpdigpfjmpaooaaE
import Derived.Deep.RegionHeld3
/-! RollGears, RollCuts, RollSizes. -/
namespace Go.Proofs.Ytpdigpfjmpaooaa
open Go.RowKit
set_option linter.unusedVariables false
set_option linter.unusedSimpArgs false
theorem keepA {w : World} {a : Addr} {v : Value} {o : Obj} (h : w.cell? a = some v) : (w.alloc o).cell? a = some v := by
  exact cell_old o h
theorem keepB {w w' : World} {a : Addr} {v : Value} (h : Below w.heap.size w w') (hc : w.cell? a = some v) : w'.cell? a = some v := (h.cell (World.block_lt_of_cell? w _ hc)).trans hc
theorem keepD {w : World} {a : Addr} {v : Value} (h : w.cell? a = some v) : w.drew.cell? a = some v := h
abbrev I64 (x : Int) : Prop := -9223372036854775808 ≤ x ∧ x ≤ 9223372036854775807
set_option maxRecDepth 100000 in
set_option maxHeartbeats 4000000 in
theorem gears_any (le mo bi : Int) (x : BitVec 8) (h : BitVec 64) (l : List (BitVec 8)) (A : Option Addr) (cap : Nat) (w : World) (_h1 : I64 le) (_h2 : I64 mo) (_h3 : I64 bi) (hr : RdB w A l) (hl : l.length ≤ cap) (_hs : l.length * 1 ≤ 140737488351232) :
    Calls Try.prog 5 #[confV le mo bi, .int .u8 x.toNat, .int .u64 h.toNat, .slice A l.length cap] w fun e w' => e = .returned (.bool true) ∧ Below w.heap.size w w' := by
  have hm := hr.1
  have hh := h.isLt
  have CUT := fun w => cut_any l A cap w hl hm
  have hr2 := hr.take 8192
  have hl2 : (l.take 8192).length ≤ cap := by rw [List.length_take]; omega
  generalize l.take 8192 = b at *
  generalize h.toNat = H at *
  have hash := fun w hr => hash_any H hh b A cap w hr hl2
  have rhash := fun w hr => rhash_any H hh b A cap w hr hl2
  generalize hashL H b = HB at *
  have hg1 := fun w => gear_any x w
  have hg2 := fun w => rgear_any x w
  generalize gearN x.toNat = G at *
  have hx := x.isLt
  generalize x.toNat = X at *
  have ck := fun w => check_any le mo bi w
  have rck := fun w => rcheck_any le mo bi w
  generalize checkC le mo bi = C at *
  replace CUT := Lib.hid CUT
  replace hash := Lib.hid hash
  replace rhash := Lib.hid rhash
  replace hg1 := Lib.hid hg1
  replace hg2 := Lib.hid hg2
  replace ck := Lib.hid ck
  replace rck := Lib.hid rck
  clear hr hl _hs _h1 _h2 _h3 hl2
  go_enter Try.func5, Try.ntmps5
  go_wp2_with (go_at_call 10; refine (CUT.out _).mono ?_; rintro e w' ⟨rfl, rfl⟩)
  obtain ⟨W, hW⟩ : ∃ W, W = w.alloc (confO le mo bi) := ⟨_, rfl⟩
  have bel : Below w.heap.size w W := by rw [hW]; exact (Below.refl _ _).alloc (Nat.le_refl _) _
  have c0 : W.cell? ⟨w.heap.size, 0, none⟩ = some (.int .i64 le) := by rw [hW]; simp [go_sem]
  have c1 : W.cell? ⟨w.heap.size, 1, none⟩ = some (.int .i64 mo) := by rw [hW]; simp [go_sem]
  have c2 : W.cell? ⟨w.heap.size, 2, none⟩ = some (.int .i64 bi) := by rw [hW]; simp [go_sem]
  have rW : RdB W A b := RdR.below (R' := EqB) hr2 bel (fun _ _ h => h)
  rw [← hW]
  clear hW hr2
  have n1 := World.new_ne W _ c0
  have rd2 : ∀ W', Below W.heap.size W W' → RdB W' A b := fun W' hb => RdR.below (R' := EqB) rW hb (fun _ _ h => h)
  have bs := bel.size
  go_region_held3 (fun w' => (w'.cell? ⟨w.heap.size, 0, none⟩ = some (.int .i64 le) ∧ w'.cell? ⟨w.heap.size, 1, none⟩ = some (.int .i64 mo) ∧ w'.cell? ⟨w.heap.size, 2, none⟩ = some (.int .i64 bi))) (with_reducible repeat' first | assumption | apply And.intro | apply keepA | apply keepD | refine keepB (by assumption) ?_)
    (first | (go_at_call 17; refine (ck.out _).mono ?_; rintro e w' ⟨rfl, rfl⟩) | (go_at_call 16; refine (rck.out _).mono ?_; rintro e w' ⟨rfl, rfl⟩) | (go_at_call 18; refine (hg1.out _).mono ?_; rintro e w' ⟨rfl, rfl⟩) | (go_at_call 19; refine (hg2.out _).mono ?_; rintro e w' ⟨rfl, rfl⟩) | (go_at_call 20; refine (hash.out _ (rd2 _ (by repeat first | exact Below.refl _ _ | refine Below.drew ?_ | refine Below.alloc ?_ (by simp) _))).mono ?_; rintro e w' ⟨rfl, rfl⟩) | (go_at_call 21; refine (rhash.out _ (rd2 _ (by repeat first | exact Below.refl _ _ | refine Below.drew ?_ | refine Below.alloc ?_ (by simp) _))).mono ?_; rintro e w' ⟨rfl, rfl⟩) | (go_at_call 15; refine (awake_any _).mono ?_; rintro e w2 ⟨rfl, bel2⟩))
  go_wp2
  go_ret
  refine ⟨rfl, Below.trans ?_ (bel2.mono (by simp [World.drew]; omega))⟩
  repeat first | exact bel | refine Below.drew ?_ | refine Below.alloc ?_ (by first | exact bs | (simp; omega)) _
end Go.Proofs.Ytpdigpfjmpaooaa
