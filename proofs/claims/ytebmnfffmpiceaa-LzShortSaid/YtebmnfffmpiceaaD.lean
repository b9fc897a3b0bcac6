import Derived.Test.YtebmnfffmpiceaaC
import Derived.Laws.Cover3
/-! The four bytes at a place. -/
namespace Go.Proofs.Ytebmnfffmpiceaa
open Go.RowKit
set_option linter.unusedVariables false
set_option linter.unusedSimpArgs false
abbrev fourV (x0 x1 x2 x3 : BitVec 8) : Value := .agg #[.int .u8 x0.toNat, .int .u8 x1.toNat, .int .u8 x2.toNat, .int .u8 x3.toNat]
abbrev fourO (x0 x1 x2 x3 : BitVec 8) : Obj := .cells #[.int .u8 x0.toNat, .int .u8 x1.toNat, .int .u8 x2.toNat, .int .u8 x3.toNat] 58
theorem at_no (b : By) (A : Option Addr) (cap g i : Nat) (w : World) (c0 : w.cell? ⟨g, 0, none⟩ = some (.slice A b.length cap)) (hs : b.length ≤ 65536) (hi : b.length < i + 4) (hi2 : i ≤ 65536) :
    Calls Try.prog 28 #[.pointer (some ⟨g, 0, none⟩), .int .i64 i] w fun e w' => e = .returned (.tuple #[fourV 0 0 0 0, .bool false]) ∧ w.alloc (fourO 0 0 0 0) = w' := by
  have hg : g < w.heap.size := World.block_lt_of_cell? w _ c0
  go_enter Try.func28, Try.ntmps28
  go_wp2
  exact bodyPost_ret (v := .tuple #[fourV 0 0 0 0, .bool false]) (by simp [results, Try.results28, go_sem]) rfl ⟨rfl, rfl⟩
theorem at_yes (b : By) (ad : Addr) (cap g i : Nat) (w : World) (c0 : w.cell? ⟨g, 0, none⟩ = some (.slice (some ad) b.length cap)) (hs : b.length ≤ 65536) (hl : b.length ≤ cap) (hi : i + 4 ≤ b.length) (x0 x1 x2 x3 : BitVec 8)
    (h0 : w.cell? (ad.add i) = some (.int .u8 x0.toNat)) (h1 : w.cell? ⟨(ad.add i).block, (ad.add i).off + 1, none⟩ = some (.int .u8 x1.toNat)) (h2 : w.cell? ⟨(ad.add i).block, (ad.add i).off + 2, none⟩ = some (.int .u8 x2.toNat)) (h3 : w.cell? ⟨(ad.add i).block, (ad.add i).off + 3, none⟩ = some (.int .u8 x3.toNat)) :
    Calls Try.prog 28 #[.pointer (some ⟨g, 0, none⟩), .int .i64 i] w fun e w' => e = .returned (.tuple #[fourV x0 x1 x2 x3, .bool true]) ∧ w.alloc (fourO x0 x1 x2 x3) = w' := by
  have hg : g < w.heap.size := World.block_lt_of_cell? w _ c0
  have har : ∀ w, (Instr.arrayAt 58 (.slice (some (ad.add i)) 4 (cap - i))).run Try.prog w = .ok (.pointer (some (ad.add i))) w := fun w => run_arrayAt w 58 _ 4 _ 4 (cap - i) Try.underlying58 (Nat.le_refl _)
  have k0 := cell_old (.cells #[.int .u8 0, .int .u8 0, .int .u8 0, .int .u8 0] 58) h0
  have k1 := cell_old (.cells #[.int .u8 0, .int .u8 0, .int .u8 0, .int .u8 0] 58) h1
  have k2 := cell_old (.cells #[.int .u8 0, .int .u8 0, .int .u8 0, .int .u8 0] 58) h2
  have k3 := cell_old (.cells #[.int .u8 0, .int .u8 0, .int .u8 0, .int .u8 0] 58) h3
  clear h0 h1 h2 h3
  go_enter Try.func28, Try.ntmps28
  go_wp2
  exact bodyPost_ret (v := .tuple #[fourV x0 x1 x2 x3, .bool true]) (by simp [results, Try.results28, go_sem]) rfl ⟨rfl, rfl⟩
end Go.Proofs.Ytebmnfffmpiceaa
