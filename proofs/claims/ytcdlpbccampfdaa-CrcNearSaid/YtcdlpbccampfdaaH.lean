import Derived.Test.YtcdlpbccampfdaaC
import Derived.ChangeKeysEq
/-! '==' of two arrays of whole numbers. -/
namespace Go.Proofs.Ytcdlpbccampfdaa
open Go.RowKit
set_option linter.unusedVariables false
theorem run_eqItems_int {P : Program} (d : Nat) {e : TypeId} {k : IntKind} (he : P.underlying e = some (.int k)) (hp : P.plainKey e = true) (hc : P.cellsOf e = 1) (xs ys : List Int) (w : World) :
    ∀ is : List Nat, (∀ j ∈ is, j < xs.length ∧ j < ys.length) →
      (Op.eqItems (d + 1) e (P.cellsOf e) (xs.map (Value.int k)).toArray (ys.map (Value.int k)).toArray is).run P w = .ok (is.all fun j => xs.getD j 0 == ys.getD j 0) w
  | [], _ => by simp [Op.eqItems]
  | j :: is, h => by
    have hj := h j (by simp)
    have ih := run_eqItems_int d he hp hc xs ys w is (fun j hj => h j (by simp [hj]))
    rw [hc] at ih ⊢
    simp only [Op.eqItems, Sem.run_bind, Nat.mul_one]
    have px : (part e (xs.map (Value.int k)).toArray j).run P w = .ok (.int k (xs.getD j 0)) w :=
      run_part_plain w hp (by simp [List.getElem?_eq_getElem hj.1])
    have py : (part e (ys.map (Value.int k)).toArray j).run P w = .ok (.int k (ys.getD j 0)) w :=
      run_part_plain w hp (by simp [List.getElem?_eq_getElem hj.2])
    rw [px]
    simp only [Result.andThen_ok]
    rw [py]
    simp only [Result.andThen_ok]
    rw [run_equalIn_int w d e k k _ _ he]
    simp only [Result.andThen_ok, List.all_cons]
    cases hq : (xs.getD j 0 == ys.getD j 0)
    · simp
    · simpa using ih
/-- Two arrays of n whole numbers are equal just where their rows are. -/
theorem run_eq_ints {P : Program} {t e : TypeId} {n : Nat} {k : IntKind} {i : TypeInfo} (ht : P.underlying t = some (.array n e)) (hi : P.info? e = some i) (he : P.underlying e = some (.int k)) (hp : P.plainKey e = true) (hc : P.cellsOf e = 1)
    (xs ys : List Int) (hx : xs.length = n) (hy : ys.length = n) (w : World) :
    (Op.equalIn 10000 t (.agg (xs.map (Value.int k)).toArray) (.agg (ys.map (Value.int k)).toArray)).run P w = .ok (xs == ys) w := by
  rw [run_equalIn_array w 9999 _ _ ht hi, run_eqItems_int 9998 he hp hc xs ys w _ (fun j hj => by have := List.mem_range.1 hj; omega)]
  congr 1
  rw [Bool.eq_iff_iff, List.all_eq_true, beq_iff_eq]
  constructor
  · intro h
    apply List.ext_getElem (by omega)
    intro j h1 h2
    have := h j (List.mem_range.2 (by omega))
    simpa [List.getElem?_eq_getElem h1, List.getElem?_eq_getElem h2] using this
  · rintro rfl j _; simp
end Go.Proofs.Ytcdlpbccampfdaa
