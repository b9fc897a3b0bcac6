import Derived.Test.YtjaakhjfpigdfaaZ
import Derived.Test.YtjaakhjfpigdfaaR
import Derived.DataReads
import Derived.Deep.Grids
/-! What came in, opened: slices of slices of bytes, arrays of numbers; equality of arrays; strings of bytes. -/
namespace Go.Proofs.Ytjaakhjfpigdfaa
open Go.Deep Go.ChangeShapes Go.WideShapes Go.ChangeAt Go.RowKit
set_option linter.unusedVariables false
set_option linter.unusedSimpArgs false
theorem open_bytes_nil {H : Type} {enc : TypeId × Value → H} {P : Program} {W : World} {base : Nat} {spare : Nat → Bool} {held : Bool} {t e : TypeId} {a : Option Addr} {len cap : Nat} {d : DataW H} {ps : List MemPlace}
    (hu : P.underlying t = some (.slice e)) (he : P.underlying e = some (.int .u8)) (hc : P.cellsOf e = 1)
    (h : DataW.Trod enc P W base spare held t (.slice a len cap) d ps) : a = none → cap = 0 := by
  obtain ⟨fuel, hf⟩ := h
  rcases open_ints hu he hc hf with ⟨hcs, _⟩ | ⟨x, len', cap', zs, hcs, _⟩
  · simp [Value.cells] at hcs
    exact fun _ => hcs.2.2
  · simp [Value.cells] at hcs
    intro h0
    rw [hcs.1] at h0
    cases h0
theorem open_rows {H : Type} {enc : TypeId × Value → H} {P : Program} {W : World} {base : Nat} {spare : Nat → Bool} {held : Bool} {t e e2 : TypeId} {a : Option Addr} {len cap : Nat} {d : DataW H} {ps : List MemPlace}
    (hu : P.underlying t = some (.slice e)) (he : P.underlying e = some (.slice e2)) (he2 : P.underlying e2 = some (.int .u8)) (hc : P.cellsOf e = 1) (hc2 : P.cellsOf e2 = 1)
    (h : DataW.Trod enc P W base spare held t (.slice a len cap) d ps) : ∃ l : List (List (BitVec 8)), len = l.length ∧ l.length ≤ cap ∧ RdR (EqN W) W a l := by
  obtain ⟨fuel, hf⟩ := h
  rcases DataW.trod_slice hu hf with ⟨hcs, _⟩ | ⟨x, len', cap', elems, rest, n, _, hcs, _, hb, hl, hm, hel, hget, _⟩
  · simp [Value.cells] at hcs
    obtain ⟨rfl, rfl, rfl⟩ := hcs
    exact ⟨[], rfl, by simp, by simp, fun j hj => by simp at hj⟩
  · simp [Value.cells] at hcs
    obtain ⟨rfl, rfl, rfl⟩ := hcs
    have each : ∀ i, ∃ l : List (BitVec 8), i < len → ∃ v, W.cell? (x.add i) = some v ∧ EqN W l v := by
      intro i
      by_cases hi : i < len
      · have h1 := hget i hi
        rw [List.getElem?_eq_getElem (by omega), hc, Nat.mul_one] at h1
        cases hq : W.cells? base (x.add i) 1 with
        | none => rw [hq] at h1; cases h1
        | some cs =>
          rw [hq] at h1
          simp only [Option.bind_some] at h1
          obtain ⟨_, hclen, hcell⟩ := World.cells?_some hq
          obtain ⟨v, rfl⟩ : ∃ v, cs = [v] := by
            match cs, hclen with
            | [v], _ => exact ⟨v, rfl⟩
          have h0 := hcell 0 (by omega)
          simp at h0
          have ha0 : (x.add i).add 0 = x.add i := by unfold Addr.add; simp
          have hform : ∃ A m c, v = .slice A m c := by
            rcases DataW.trod_slice he h1 with ⟨hcs, _⟩ | ⟨y, m, c, _, _, _, _, hcs, _⟩
            · exact ⟨none, 0, 0, by simpa using hcs⟩
            · exact ⟨some y, m, c, by simpa using hcs⟩
          obtain ⟨A, m, c, rfl⟩ := hform
          have tr : DataW.Trod enc P W base spare held e (.slice A m c) elems[i].1 elems[i].2 := ⟨n, h1⟩
          obtain ⟨l, rfl, hlc, hr⟩ := open_bytes he he2 hc2 tr
          have hnil := open_bytes_nil he he2 hc2 tr
          exact ⟨l, fun _ => ⟨_, by first | exact h0 | (rw [← ha0]; exact h0), A, c, rfl, hlc, hr, hnil⟩⟩
      · exact ⟨[], fun h => absurd h hi⟩
    obtain ⟨f, hf⟩ := Classical.axiomOfChoice each
    refine ⟨(List.range len).map f, by simp, by simpa using hl, by simp; unfold maxLen at hm; omega, fun j hj => ?_⟩
    have hj' : j < len := by simpa using hj
    obtain ⟨v, hv, hE⟩ := hf j hj'
    exact ⟨x, v, rfl, hv, by simpa using hE⟩
theorem bvs_u32 : ∀ {zs : List Int}, (∀ n ∈ zs, (Lit.int .u32 n).wf = true) → ∃ l : List (BitVec 32), zs = l.map fun x => (x.toNat : Int)
  | [], _ => ⟨[], rfl⟩
  | z :: zs, h => by
    obtain ⟨b, rfl⟩ := bv_u32 (h z (by simp))
    obtain ⟨l, rfl⟩ := bvs_u32 (zs := zs) (fun n hn => h n (by simp [hn]))
    exact ⟨b :: l, rfl⟩
theorem open_arr32 {H : Type} {enc : TypeId × Value → H} {P : Program} {W : World} {base b0 : Nat} {spare : Nat → Bool} {held : Bool} {r : Reach} {t e n : Nat} {v : Value} {d : DataW H} {ps : List MemPlace}
    (hu : P.underlying t = some (.array n e)) (he : P.underlying e = some (.int .u32)) (hc : P.cellsOf e = 1) (hct : P.cellsOf t = n)
    (hv : Value.okWide P W r b0 t v) (h : DataW.Trod enc P W base spare held t v d ps) : ∃ l : List (BitVec 32), l.length = n ∧ v = .agg (U l) := by
  obtain ⟨zs, hz, rfl, hw⟩ := open_arr hu he hc hct hv h
  obtain ⟨l, rfl⟩ := bvs_u32 hw
  exact ⟨l, by simpa using hz, by simp [U, Function.comp_def]⟩
theorem eq_of_nats (n : Nat) (x y : List (BitVec n)) : ((x.map fun b => (b.toNat : Int)) == (y.map fun b => (b.toNat : Int))) = (x == y) := by
  rw [Bool.eq_iff_iff, beq_iff_eq, beq_iff_eq]
  constructor
  · intro h
    apply List.ext_getElem (by have := congrArg List.length h; simpa using this)
    intro j h1 h2
    have h3 := congrArg (fun l => l[j]?) h
    simp [h1, h2] at h3
    exact BitVec.eq_of_toNat_eq (by omega)
  · rintro rfl; rfl
theorem eq_dig (t : TypeId) (ht : Try.prog.underlying t = some (.array 32 5)) (x y : By) (hx : x.length = 32) (hy : y.length = 32) (w : World) : (Op.equalIn 10000 t (.agg (V8 x)) (.agg (V8 y))).run Try.prog w = .ok (x == y) w := by
  obtain ⟨i, hi, _⟩ := info_parts info5
  have h := run_eq_ints (P := Try.prog) (t := t) (e := 5) (n := 32) (k := .u8) (i := i) ht hi Try.underlying5 (by kernel_rfl) (by kernel_rfl) (x.map fun x => (x.toNat : Int)) (y.map fun x => (x.toNat : Int)) (by simp [hx]) (by simp [hy]) w
  rw [eq_of_nats] at h
  rw [← h]
  simp [V8, Function.comp_def]
theorem info30 : (Try.prog.info? 30).map (fun i => (i.zero, i.size, i.bytes)) = some (some (.int .u32 0), 1, 4) := by kernel_rfl
theorem eq_st (x y : List W32) (hx : x.length = 8) (hy : y.length = 8) (w : World) : (Op.equalIn 10000 31 (.agg (U x)) (.agg (U y))).run Try.prog w = .ok (x == y) w := by
  obtain ⟨i, hi, _⟩ := info_parts info30
  have h := run_eq_ints (P := Try.prog) (t := 31) (e := 30) (n := 8) (k := .u32) (i := i) Try.underlying31 hi Try.underlying30 (by kernel_rfl) (by kernel_rfl) (x.map fun x => (x.toNat : Int)) (y.map fun x => (x.toNat : Int)) (by simp [hx]) (by simp [hy]) w
  rw [eq_of_nats] at h
  rw [← h]
  simp [U, Function.comp_def]
def strV (l : By) : ByteArray := strOfNums (l.map fun c => (c.toNat : Int))
theorem conv_rd {w : World} {A : Option Addr} {l : By} (h : RdB w A l) (n c : Nat) (hn : n = l.length) : (convert 35 9 (.slice A n c)).run Try.prog w = .ok (.string (strV l)) w := by
  subst hn
  rcases A with _ | ad
  · have h0 : l = [] := by
      rcases Nat.eq_zero_or_pos l.length with h0 | h0
      · exact List.eq_nil_of_length_eq_zero h0
      · obtain ⟨ad, e, _⟩ := h.at' 0 h0; cases e
    subst h0
    exact run_convert_bytes_nil w 35 5 Try.underlying35 Try.underlying5 0 c 9 Try.underlying9
  · have hl : (loadCells ad l.length).run Try.prog w = .ok ((l.map fun c => (c.toNat : Int)).map (Value.int .u8)).toArray w := by
      have := run_loadCells_list (P := Try.prog) w ad ((l.map fun c => (c.toNat : Int)).map (Value.int .u8)) (fun j v hj => by
        obtain ⟨hj1, hj2⟩ := List.getElem?_eq_some_iff.1 hj
        have hj' : j < l.length := by simpa using hj1
        obtain ⟨ad', e, hc⟩ := h.at' j hj'
        obtain rfl := Option.some.inj e
        rw [hc, ← hj2]; simp)
      simpa using this
    rw [run_convert_bytes_string w 35 9 5 _ l.length c Try.underlying35 Try.underlying5 Try.underlying9, run_bytesToString w _ l.length c _ hl, foldl_push_bytes]
    simp [strV, strOfNums, ByteArray.empty, ByteArray.emptyWithCapacity]
    rfl
theorem conv_EqN {w : World} {p : By} {v : Value} (h : EqN w p v) : (convert 35 9 v).run Try.prog w = .ok (.string (strV p)) w := by
  obtain ⟨A, c, rfl, _, hr, _⟩ := h
  exact conv_rd hr _ c rfl
end Go.Proofs.Ytjaakhjfpigdfaa
