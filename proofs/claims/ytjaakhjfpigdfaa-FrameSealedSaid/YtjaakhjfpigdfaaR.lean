import Derived.Test.YtjaakhjfpigdfaaK
import Derived.ProofKit
import Derived.OpenShut
import Derived.SizedLaws
/-! What came in, opened: numbers as bit vectors, slices of bytes as lists of them, arrays. No program is named here. -/
namespace Go.Proofs.Ytjaakhjfpigdfaa
open Go.ChangeShapes Go.WideShapes Go.ChangeAt Go.RowKit
set_option linter.unusedVariables false

theorem bv_of (n : Nat) (x : Int) (h0 : 0 ≤ x) (h1 : x < 2 ^ n) : ∃ b : BitVec n, x = (b.toNat : Int) :=
  ⟨BitVec.ofNat n x.toNat, by
    rw [BitVec.toNat_ofNat, Nat.mod_eq_of_lt]
    · omega
    · have : (x.toNat : Int) < ((2 ^ n : Nat) : Int) := by rw [Int.toNat_of_nonneg h0]; simpa using h1
      exact Int.ofNat_lt.1 this⟩
theorem bv_u8 {x : Int} (h : (Lit.int .u8 x).wf = true) : ∃ b : BitVec 8, x = (b.toNat : Int) := by
  simp [Lit.wf, IntKind.min, IntKind.max, IntKind.signed, IntKind.bits] at h; exact bv_of 8 x h.1 (by omega)
theorem bv_u16 {x : Int} (h : (Lit.int .u16 x).wf = true) : ∃ b : BitVec 16, x = (b.toNat : Int) := by
  simp [Lit.wf, IntKind.min, IntKind.max, IntKind.signed, IntKind.bits] at h; exact bv_of 16 x h.1 (by omega)
theorem bv_u32 {x : Int} (h : (Lit.int .u32 x).wf = true) : ∃ b : BitVec 32, x = (b.toNat : Int) := by
  simp [Lit.wf, IntKind.min, IntKind.max, IntKind.signed, IntKind.bits] at h; exact bv_of 32 x h.1 (by omega)
theorem bv_u64 {x : Int} (h : (Lit.int .u64 x).wf = true) : ∃ b : BitVec 64, x = (b.toNat : Int) := by
  simp [Lit.wf, IntKind.min, IntKind.max, IntKind.signed, IntKind.bits] at h; exact bv_of 64 x h.1 (by omega)
theorem bv_i64 {x : Int} (h : (Lit.int .i64 x).wf = true) : -9223372036854775808 ≤ x ∧ x ≤ 9223372036854775807 := by
  simp [Lit.wf, IntKind.min, IntKind.max, IntKind.signed, IntKind.bits] at h; omega
theorem bvs_u8 : ∀ {zs : List Int}, (∀ n ∈ zs, (Lit.int .u8 n).wf = true) → ∃ l : List (BitVec 8), zs = l.map fun x => (x.toNat : Int)
  | [], _ => ⟨[], rfl⟩
  | z :: zs, h => by
    obtain ⟨b, rfl⟩ := bv_u8 (h z (by simp))
    obtain ⟨l, rfl⟩ := bvs_u8 (zs := zs) (fun n hn => h n (by simp [hn]))
    exact ⟨b :: l, rfl⟩
theorem open_bytes {H : Type} {enc : TypeId × Value → H} {P : Program} {W : World} {base : Nat} {spare : Nat → Bool} {held : Bool} {t e : TypeId} {a : Option Addr} {len cap : Nat} {d : DataW H} {ps : List MemPlace}
    (hu : P.underlying t = some (.slice e)) (he : P.underlying e = some (.int .u8)) (hc : P.cellsOf e = 1)
    (h : DataW.Trod enc P W base spare held t (.slice a len cap) d ps) : ∃ l : List (BitVec 8), len = l.length ∧ l.length ≤ cap ∧ RdB W a l := by
  obtain ⟨fuel, hf⟩ := h
  rcases open_ints hu he hc hf with ⟨hcs, _⟩ | ⟨x, len', cap', zs, hcs, _, hl, hm, hz, _, hcell, hwz⟩
  · simp [Value.cells] at hcs
    obtain ⟨rfl, rfl, rfl⟩ := hcs
    exact ⟨[], rfl, by simp, by simp, fun j hj => by simp at hj⟩
  · simp [Value.cells] at hcs
    obtain ⟨rfl, rfl, rfl⟩ := hcs
    obtain ⟨l, rfl⟩ := bvs_u8 hwz
    have hz' : len ≤ l.length := by
      have : l.length = if spare x.block = true then cap else len := by simpa using hz
      rw [this]; split <;> omega
    refine ⟨l.take len, by rw [List.length_take]; omega, by rw [List.length_take]; omega, by rw [List.length_take]; unfold maxLen at hm; omega, fun j hj => ?_⟩
    have hj' : j < l.length := by rw [List.length_take] at hj; omega
    refine ⟨x, _, rfl, hcell j (by simpa using hj'), ?_⟩
    rw [List.getElem_take]
    unfold EqB
    simp [List.getElem?_eq_getElem hj']
theorem reach_bytes {H : Type} {enc : TypeId × Value → H} {P : Program} {W : World} {base : Nat} {spare : Nat → Bool} {held : Bool} {t e : TypeId} {k : IntKind} {a : Option Addr} {len cap : Nat} {d : DataW H} {ps : List MemPlace} {ts : List TypeId} {ds : List (DataW H)} {j : Nat}
    (hsz : (DataW.weightsEach P ts ds).all (· ≤ reachBytes) = true) (ht : ts[j]? = some t) (hd : ds[j]? = some d) (hu : P.underlying t = some (.slice e)) (he : P.underlying e = some (.int k)) (hc : P.cellsOf e = 1) {B : Nat} (hB : P.bytesOf e = B)
    (h : DataW.Trod enc P W base spare held t (.slice a len cap) d ps) : len * B ≤ 140737488351232 := by
  obtain ⟨fuel, hf⟩ := h
  rcases open_ints hu he hc hf with ⟨hcs, _⟩ | ⟨x, l, c, zs, hcs, _, hl, _, hz, hx, _, _⟩
  · simp [Value.cells] at hcs
    obtain ⟨rfl, rfl, rfl⟩ := hcs
    simp
  · simp [Value.cells] at hcs
    obtain ⟨rfl, rfl, rfl⟩ := hcs
    obtain ⟨hx, _⟩ := Prod.mk.inj hx
    subst hx
    have z := sized_slice hsz ht hd hu
    rw [hB] at z
    have hl2 : len ≤ zs.length := by
      rw [hz]
      split
      · exact hl
      · exact Nat.le_refl _
    have h1 : (lits (H := H) k (zs.take len)).length + (lits (H := H) k (zs.drop len)).length = zs.length := by
      simp [lits]
      omega
    rw [h1] at z
    exact Nat.le_trans (Nat.mul_le_mul_right _ hl2) z
/-- An array of n whole numbers by value: its cells. -/
theorem open_arr {H : Type} {enc : TypeId × Value → H} {P : Program} {W : World} {base b0 : Nat} {spare : Nat → Bool} {held : Bool} {r : Reach} {t e n : Nat} {k : IntKind} {v : Value} {d : DataW H} {ps : List MemPlace}
    (hu : P.underlying t = some (.array n e)) (he : P.underlying e = some (.int k)) (hc : P.cellsOf e = 1) (hct : P.cellsOf t = n)
    (hv : Value.okWide P W r b0 t v) (h : DataW.Trod enc P W base spare held t v d ps) : ∃ zs : List Int, zs.length = n ∧ v = .agg (zs.map (Value.int k)).toArray ∧ ∀ z ∈ zs, (Lit.int k z).wf = true := by
  have hcs : ∃ cs, v = .agg cs ∧ cs.size = P.cellsOf t := by
    simp only [Value.okWide, hu] at hv
    obtain ⟨cs, h1, h2, _⟩ := hv
    exact ⟨cs, h1, h2⟩
  obtain ⟨cs, rfl, hsz⟩ := hcs
  obtain ⟨fuel, hf⟩ := h
  obtain ⟨xs, m, _, _, hl, hlen, hx⟩ := DataW.trod_array hu hf
  have hcell : ∀ i (hi : i < n), ∃ z : Int, cs.toList[i]? = some (.int k z) ∧ (Lit.int k z).wf = true := by
    intro i hi
    have h1 := hx i hi
    rw [List.getElem?_eq_getElem (by omega)] at h1
    obtain ⟨z, hz, _, hw⟩ := DataW.trod_int he h1
    rw [hc, Nat.mul_one] at hz
    refine ⟨z, ?_, hw⟩
    have h2 : ((Value.agg cs).cells.toList.drop i).take 1 = [.int k z] := hz
    have h3 : (cs.toList.drop i)[0]? = some (.int k z) := by
      have : ((cs.toList.drop i).take 1)[0]? = some (.int k z) := by
        have h4 : (cs.toList.drop i).take 1 = [.int k z] := h2
        rw [h4]; rfl
      simpa using this
    simpa using h3
  refine ⟨cs.toList.map (fun v => match v with | .int _ z => z | _ => 0), by simp [hsz, hct], ?_, ?_⟩
  · congr 1
    apply Array.ext'
    apply List.ext_getElem (by simp)
    intro i h1 h2
    have hi : i < n := by simp at h1; omega
    obtain ⟨z, hz, _⟩ := hcell i hi
    rw [List.getElem?_eq_getElem h1] at hz
    have hz' := Option.some.inj hz
    simp only [List.getElem_map]
    rw [hz']
  · intro z hz
    obtain ⟨v, hv', rfl⟩ := List.mem_map.1 hz
    obtain ⟨i, hi, rfl⟩ := List.getElem_of_mem hv'
    obtain ⟨z, hz', hw⟩ := hcell i (by simp at hi; omega)
    rw [List.getElem?_eq_getElem hi] at hz'
    have := Option.some.inj hz'
    rw [this]; exact hw
/-- .. of bytes. -/
theorem open_arr8 {H : Type} {enc : TypeId × Value → H} {P : Program} {W : World} {base b0 : Nat} {spare : Nat → Bool} {held : Bool} {r : Reach} {t e n : Nat} {v : Value} {d : DataW H} {ps : List MemPlace}
    (hu : P.underlying t = some (.array n e)) (he : P.underlying e = some (.int .u8)) (hc : P.cellsOf e = 1) (hct : P.cellsOf t = n)
    (hv : Value.okWide P W r b0 t v) (h : DataW.Trod enc P W base spare held t v d ps) : ∃ l : List (BitVec 8), l.length = n ∧ v = .agg (l.map fun x => Value.int .u8 (x.toNat : Int)).toArray := by
  obtain ⟨zs, hz, rfl, hw⟩ := open_arr hu he hc hct hv h
  obtain ⟨l, rfl⟩ := bvs_u8 hw
  exact ⟨l, by simpa using hz, by simp [Function.comp_def]⟩
end Go.Proofs.Ytjaakhjfpigdfaa
