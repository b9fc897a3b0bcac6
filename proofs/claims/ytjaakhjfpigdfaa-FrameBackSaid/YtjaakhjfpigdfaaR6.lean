import Derived.Test.YtjaakhjfpigdfaaR3
import Derived.Test.YtjaakhjfpigdfaaFB
import Derived.Lib.SmallJoins
/-! What came in, opened: a frame. -/
namespace Go.Proofs.Ytjaakhjfpigdfaa
open Go.ChangeShapes Go.WideShapes Go.ChangeAt Go.RowKit Go.Deep
set_option linter.unusedVariables false
set_option maxRecDepth 100000 in
theorem open_frame {H : Type} {enc : TypeId × Value → H} {W : World} {base b0 : Nat} {r : Reach} {spare : Nat → Bool} {held : Bool} {v : Value} {d : DataW H} {ps : List MemPlace}
    (hv : Value.okWide Try.prog W r b0 83 v) (h : DataW.Trod enc Try.prog W base spare held 83 v d ps) : ∃ (f : Fr) (A : Option Addr) (c : Nat), v = frV f (.slice A f.body.length c) ∧ RdB W A f.body ∧ f.body.length ≤ c ∧ (A = none → c = 0) := by
  obtain ⟨cs, rfl, hsz⟩ := okWide_struct Try.underlying83 hv
  have hC : Try.prog.cellsOf 83 = 8 := by kernel_rfl
  obtain ⟨l, rfl⟩ : ∃ l : List Value, cs = l.toArray := ⟨cs.toList, by simp⟩
  have hl : l.length = 8 := by simpa using hsz.trans hC
  match l, hl with
  | [c0, c1, c2, c3, c4, c5, c6, c7], _ =>
    obtain ⟨fuel, hf⟩ := h
    obtain ⟨xs, n', _, _, _, hlx, hfld⟩ := DataW.trod_struct Try.underlying83 hf
    match xs, hlx with
    | [y0, y1, y2, y3, y4, y5, y6, y7], _ =>
      have k3 : Try.prog.cellsOf 3 = 1 := by kernel_rfl
      have k33 : Try.prog.cellsOf 33 = 1 := by kernel_rfl
      have k35 : Try.prog.cellsOf 35 = 1 := by kernel_rfl
      have t0 : DataW.trod enc Try.prog W base spare held n' 3 [c0] = some y0 := by simpa [k3, Value.cells] using hfld 0 _ rfl
      have t1 : DataW.trod enc Try.prog W base spare held n' 3 [c1] = some y1 := by simpa [k3, Value.cells] using hfld 1 _ rfl
      have t2 : DataW.trod enc Try.prog W base spare held n' 33 [c2] = some y2 := by simpa [k33, Value.cells] using hfld 2 _ rfl
      have t3 : DataW.trod enc Try.prog W base spare held n' 33 [c3] = some y3 := by simpa [k33, Value.cells] using hfld 3 _ rfl
      have t4 : DataW.trod enc Try.prog W base spare held n' 3 [c4] = some y4 := by simpa [k3, Value.cells] using hfld 4 _ rfl
      have t5 : DataW.trod enc Try.prog W base spare held n' 35 [c5] = some y5 := by simpa [k35, Value.cells] using hfld 5 _ rfl
      have t6 : DataW.trod enc Try.prog W base spare held n' 3 [c6] = some y6 := by simpa [k3, Value.cells] using hfld 6 _ rfl
      have t7 : DataW.trod enc Try.prog W base spare held n' 33 [c7] = some y7 := by simpa [k33, Value.cells] using hfld 7 _ rfl
      obtain ⟨z0, e0, _, w0⟩ := DataW.trod_int Try.underlying3 t0
      obtain rfl : c0 = .int .i64 z0 := by simpa using e0
      obtain ⟨z1, e1, _, w1⟩ := DataW.trod_int Try.underlying3 t1
      obtain rfl : c1 = .int .i64 z1 := by simpa using e1
      obtain ⟨z2, e2, _, w2⟩ := DataW.trod_int Try.underlying33 t2
      obtain rfl : c2 = .int .u64 z2 := by simpa using e2
      obtain ⟨z3, e3, _, w3⟩ := DataW.trod_int Try.underlying33 t3
      obtain rfl : c3 = .int .u64 z3 := by simpa using e3
      obtain ⟨z4, e4, _, w4⟩ := DataW.trod_int Try.underlying3 t4
      obtain rfl : c4 = .int .i64 z4 := by simpa using e4
      obtain ⟨z6, e6, _, w6⟩ := DataW.trod_int Try.underlying3 t6
      obtain rfl : c6 = .int .i64 z6 := by simpa using e6
      obtain ⟨z7, e7, _, w7⟩ := DataW.trod_int Try.underlying33 t7
      obtain rfl : c7 = .int .u64 z7 := by simpa using e7
      obtain ⟨b2, rfl⟩ := bv_u64 w2
      obtain ⟨b3, rfl⟩ := bv_u64 w3
      obtain ⟨b7, rfl⟩ := bv_u64 w7
      obtain ⟨a, len, cap, rfl⟩ : ∃ a len cap, c5 = .slice a len cap := by
        rcases open_slice Try.underlying35 t5 with ⟨hcs, _⟩ | ⟨x, len', cap', m, n, D, Pl, hcs, _⟩
        · exact ⟨none, 0, 0, by simpa using hcs⟩
        · exact ⟨some x, len', cap', by simpa using hcs⟩
      have T5 : DataW.Trod enc Try.prog W base spare held 35 (.slice a len cap) y5.1 y5.2 := ⟨n', by simpa [Value.cells] using t5⟩
      have nl := open_bytes_nil Try.underlying35 Try.underlying5 (by kernel_rfl) T5
      obtain ⟨l, rfl, hl1, hr1⟩ := open_bytes Try.underlying35 Try.underlying5 (by kernel_rfl) T5
      exact ⟨⟨z0, z1, b2, b3, z4, l, z6, b7⟩, a, cap, rfl, hr1, hl1, nl⟩
end Go.Proofs.Ytjaakhjfpigdfaa
