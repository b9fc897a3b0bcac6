import Derived.Test.YtinkcffkhbaleaaC
import Derived.Deep.RegionHeld3
/-! What is kept behind calls that only make memory. -/
namespace Go.Proofs.Ytinkcffkhbaleaa
open Go.RowKit
theorem keepA {w : World} {a : Addr} {v : Value} {o : Obj} (h : w.cell? a = some v) : (w.alloc o).cell? a = some v := by
  exact cell_old o h
theorem keepB {w w' : World} {a : Addr} {v : Value} (h : Below w.heap.size w w') (hc : w.cell? a = some v) : w'.cell? a = some v := (h.cell (World.block_lt_of_cell? w _ hc)).trans hc
theorem keepD {w : World} {a : Addr} {v : Value} (h : w.cell? a = some v) : w.drew.cell? a = some v := h
end Go.Proofs.Ytinkcffkhbaleaa
