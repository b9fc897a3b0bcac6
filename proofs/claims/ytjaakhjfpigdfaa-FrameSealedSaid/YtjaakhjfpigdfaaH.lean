import Derived.Test.YtjaakhjfpigdfaaG
import Derived.Deep.AppendSrc
/-! Pad: an append of zeros. -/
namespace Go.Proofs.Ytjaakhjfpigdfaa
open Go.RowKit
set_option linter.unusedVariables false
set_option linter.unusedSimpArgs false
theorem run_append_zeros0 (w : World) (ty : TypeId) (g : Nat) : (Builtin.append_ #[35, 33] ty #[.slice (some ⟨g, 0, none⟩) 1 1, .int .u64 0]).run Try.prog w = .ok (.slice (some ⟨g, 0, none⟩) 1 1) w := by
  obtain ⟨i0, hi, hz0, hz1, hz2⟩ := info_parts info5
  simp [Builtin.append_, run_underlying Try.underlying35, run_underlying Try.underlying33, sizeOf, typeInfo, hi, hz1, hz2, asInt, asIntOf, IntKind.wrap_i64, storeCells]
theorem run_append_zeros1 (w : World) (ty : TypeId) (g k : Nat) (hk : 0 < k) (hk2 : k < 64) (hc : (Builtin.firstCells 1 1 (.slice (some ⟨g, 0, none⟩) 1 1)).run Try.prog w.drew = .ok #[.int .u8 128] w.drew) : (Builtin.append_ #[35, 33] ty #[.slice (some ⟨g, 0, none⟩) 1 1, .int .u64 (k : Int)]).run Try.prog w =
    .ok (.slice (some ⟨w.heap.size, 0, none⟩) (1 + k) (grownCap w (1 + k) 1 5)) (w.drew.alloc (.cells (#[Value.int .u8 128] ++ (Builtin.zeroCells #[Value.int .u8 0] k ++ Builtin.zeroCells #[Value.int .u8 0] (grownCap w (1 + k) 1 5 - (1 + k)))) 5)) := by
  obtain ⟨i0, hi, hz0, hz1, hz2⟩ := info_parts info5
  have hw : IntKind.i64.wrap (k : Int) = k := by rw [IntKind.wrap_i64]; omega
  have hn : ¬ (1 + k ≤ 1) := by omega
  have hneg : ¬ ((k : Int) < 0) := by omega
  have h0 : ¬ k = 0 := by omega
  have h48 : ¬ (281474976710656 < (k : Int)) := by omega
  have h63' : ¬ (9223372036854775807 < ((1 : Int) + (k : Int))) := by omega
  have hns : Builtin.nextslicecap (1 + k) 1 * 1 ≤ 281474976710656 := growslice_fits (by omega) (by omega)
  have h48' : ¬ (281474976710656 < Builtin.nextslicecap (1 + k) 1) := by omega
  simp [Builtin.append_, run_underlying Try.underlying35, run_underlying Try.underlying33, sizeOf, typeInfo, zeroValue, hi, hz0, hz1, hz2, asInt, asIntOf, hw, hn, hneg, h0, h48, h63', h48', Question.forced, hc, newRow, grownCap]
  rfl
end Go.Proofs.Ytjaakhjfpigdfaa
