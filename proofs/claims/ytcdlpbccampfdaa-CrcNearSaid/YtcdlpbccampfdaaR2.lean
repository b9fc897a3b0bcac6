import Derived.Test.YtcdlpbccampfdaaR
import Derived.Test.YtcdlpbccampfdaaN
/-! An array by value, opened; the walk of CrcNear in that form. -/
namespace Go.Proofs.Ytcdlpbccampfdaa
open Go.ChangeShapes Go.WideShapes Go.ChangeAt Go.RowKit
set_option linter.unusedVariables false

/-- An array of n whole numbers by value: its cells. -/
theorem open_arr {H : Type} {enc : TypeId × Value → H} {P : Program} {W : World} {base b0 : Nat} {spare : Nat → Bool} {held : Bool} {r : Reach} {t e n : Nat} {k : IntKind} {v : Value} {d : DataW H} {ps : List MemPlace}
    (hu : P.underlying t = some (.array n e)) (he : P.underlying e = some (.int k)) (hc : P.cellsOf e = 1) (hct : P.cellsOf t = n)
    (hv : Value.okWide P W r b0 t v) (h : DataW.Trod enc P W base spare held t v d ps) : ∃ zs : List Int, zs.length = n ∧ v = .agg (zs.map (Value.int k)).toArray ∧ ∀ z ∈ zs, (Lit.int k z).wf = true := by
  have hcs : ∃ cs, v = .agg cs ∧ cs.size = P.cellsOf t := by
    simp only [Value.okWide, hu] at hv
    obtain ⟨cs, h1, h2, _⟩ := hv
    exact ⟨cs, h1, h2⟩
  obtain ⟨cs, rfl, hsz⟩ := hcs
  obtain ⟨fuel, hf⟩ := h
  obtain ⟨xs, m, _, _, hl, hlen, hx⟩ := DataW.trod_array hu hf
  have hcell : ∀ i (hi : i < n), ∃ z : Int, cs.toList[i]? = some (.int k z) ∧ (Lit.int k z).wf = true := by
    intro i hi
    have h1 := hx i hi
    rw [List.getElem?_eq_getElem (by omega)] at h1
    obtain ⟨z, hz, _, hw⟩ := DataW.trod_int he h1
    rw [hc, Nat.mul_one] at hz
    refine ⟨z, ?_, hw⟩
    have h2 : ((Value.agg cs).cells.toList.drop i).take 1 = [.int k z] := hz
    have h3 : (cs.toList.drop i)[0]? = some (.int k z) := by
      have : ((cs.toList.drop i).take 1)[0]? = some (.int k z) := by
        have h4 : (cs.toList.drop i).take 1 = [.int k z] := h2
        rw [h4]; rfl
      simpa using this
    simpa using h3
  refine ⟨cs.toList.map (fun v => match v with | .int _ z => z | _ => 0), by simp [hsz, hct], ?_, ?_⟩
  · congr 1
    apply Array.ext'
    apply List.ext_getElem (by simp)
    intro i h1 h2
    have hi : i < n := by simp at h1; omega
    obtain ⟨z, hz, _⟩ := hcell i hi
    rw [List.getElem?_eq_getElem h1] at hz
    have hz' := Option.some.inj hz
    simp only [List.getElem_map]
    rw [hz']
  · intro z hz
    obtain ⟨v, hv', rfl⟩ := List.mem_map.1 hz
    obtain ⟨i, hi, rfl⟩ := List.getElem_of_mem hv'
    obtain ⟨z, hz', hw⟩ := hcell i (by simp at hi; omega)
    rw [List.getElem?_eq_getElem hi] at hz'
    have := Option.some.inj hz'
    rw [this]; exact hw
/-- .. of bytes. -/
theorem open_arr8 {H : Type} {enc : TypeId × Value → H} {P : Program} {W : World} {base b0 : Nat} {spare : Nat → Bool} {held : Bool} {r : Reach} {t e n : Nat} {v : Value} {d : DataW H} {ps : List MemPlace}
    (hu : P.underlying t = some (.array n e)) (he : P.underlying e = some (.int .u8)) (hc : P.cellsOf e = 1) (hct : P.cellsOf t = n)
    (hv : Value.okWide P W r b0 t v) (h : DataW.Trod enc P W base spare held t v d ps) : ∃ l : List (BitVec 8), l.length = n ∧ v = .agg (l.map fun x => Value.int .u8 (x.toNat : Int)).toArray := by
  obtain ⟨zs, hz, rfl, hw⟩ := open_arr hu he hc hct hv h
  obtain ⟨l, rfl⟩ := bvs_u8 hw
  exact ⟨l, by simpa using hz, by simp [Function.comp_def]⟩

theorem near_walk' (b : List (BitVec 8)) (B : Option Addr) (cb : Nat) (at' : BitVec 16) (x : List (BitVec 8)) (w : World)
    (hb : RdB w B b) (hlb : b.length ≤ cb) (yb : b.length * 1 ≤ 140737488351232) (hx : x.length = 4) :
    Calls Try.prog 5 #[.slice B b.length cb, .int .u16 at'.toNat, .agg (x.map fun x => Value.int .u8 (x.toNat : Int)).toArray] w fun e w' => e = .returned (.bool true) ∧ Below w.heap.size w w' :=
  match x, hx with
  | [x0, x1, x2, x3], _ => near_walk b B cb at' x0 x1 x2 x3 w hb hlb yb
end Go.Proofs.Ytcdlpbccampfdaa
