import Derived.Test.YtpdigpfjmpaooaaO
import Derived.Laws.BytesArg
import Derived.Laws.BytesString
/-! Rows of chunks as they are read; Same. -/
namespace Go.Proofs.Ytpdigpfjmpaooaa
open Go.RowKit
set_option linter.unusedVariables false
set_option linter.unusedSimpArgs false
def strV (l : List (BitVec 8)) : ByteArray := strOfNums (l.map fun c => (c.toNat : Int))
theorem conv_rd {w : World} {A : Option Addr} {l : List (BitVec 8)} (h : RdB w A l) (n c : Nat) (hn : n = l.length) : (convert 24 9 (.slice A n c)).run Try.prog w = .ok (.string (strV l)) w := by
  subst hn
  rcases A with _ | ad
  · have h0 : l = [] := by
      rcases Nat.eq_zero_or_pos l.length with h0 | h0
      · exact List.eq_nil_of_length_eq_zero h0
      · obtain ⟨ad, e, _⟩ := h.at' 0 h0; cases e
    subst h0
    exact run_convert_bytes_nil w 24 5 Try.underlying24 Try.underlying5 0 c 9 Try.underlying9
  · have hl : (loadCells ad l.length).run Try.prog w = .ok ((l.map fun c => (c.toNat : Int)).map (Value.int .u8)).toArray w := by
      have := run_loadCells_list (P := Try.prog) w ad ((l.map fun c => (c.toNat : Int)).map (Value.int .u8)) (fun j v hj => by
        obtain ⟨hj1, hj2⟩ := List.getElem?_eq_some_iff.1 hj
        have hj' : j < l.length := by simpa using hj1
        obtain ⟨ad', e, hc⟩ := h.at' j hj'
        obtain rfl := Option.some.inj e
        rw [hc, ← hj2]; simp)
      simpa using this
    rw [run_convert_bytes_string w 24 9 5 _ l.length c Try.underlying24 Try.underlying5 Try.underlying9, run_bytesToString w _ l.length c _ hl, foldl_push_bytes]
    simp [strV, strOfNums, ByteArray.empty, ByteArray.emptyWithCapacity]
    rfl
theorem drew_below {B : Nat} {a w : World} (h : Below B a w) (n : Nat) : Below B a (w.drewN n) := ⟨h.os, h.tape, h.output, h.size, h.block⟩
theorem OwnP.read {w : World} {base : Nat} {v : Value} {ps : List (List (BitVec 8))} (h : OwnP w base v ps) : ∃ A c, v = .slice A ps.length c ∧ ps.length ≤ c ∧ (A = none → c = 0) ∧ RdP w A ps := by
  obtain ⟨vs, h1, h2⟩ := h
  rcases Joins.ownsRow_forms h1 with ⟨rfl, h0⟩ | ⟨g, cap, rfl⟩
  · obtain rfl : ps = [] := List.eq_nil_of_length_eq_zero (by omega)
    exact ⟨none, 0, by simp, by simp, fun _ => rfl, RdP.nil _ _⟩
  · have hm : ps.length ≤ 9223372036854775807 := by
      rcases h1.2 with ⟨_, h1⟩ | ⟨g', cap', cur, he, _, _, h1, h2, _⟩
      · omega
      · simp only [Value.slice.injEq] at he; unfold maxLen at *; omega
    refine ⟨_, cap, rfl, own_cap h1, (fun h => by cases h), hm, fun j hj => ?_⟩
    obtain ⟨u, hu, _, hub⟩ := h2 j hj
    obtain ⟨B, c, rfl, hc, hr, _⟩ := own_bytes hub
    exact ⟨_, _, rfl, h1.cells (g := g) rfl j _ hu, B, c, rfl, hc, hr⟩
theorem RdP.below {w w' : World} {A : Option Addr} {ps : List (List (BitVec 8))} (h : RdP w A ps) (hb : Below w.heap.size w w') : RdP w' A ps := RdR.below h hb (fun p v hv => EqP.below hb p v hv)
set_option maxRecDepth 100000 in
set_option maxHeartbeats 4000000 in
theorem same_yes (ps : List (List (BitVec 8))) (A B : Option Addr) (c d : Nat) (w : World) (hA : RdP w A ps) (hB : RdP w B ps) (hc : ps.length ≤ c) (hd : ps.length ≤ d) :
    Calls Try.prog 26 #[.slice A ps.length c, .slice B ps.length d] w fun e w' => e = .returned (.bool true) ∧ Below w.heap.size w w' := by
  have hm := hA.1
  have HA := Lib.hid hA
  have HB := Lib.hid hB
  clear hA hB
  go_enter Try.func26, Try.ntmps26
  go_wp2
  go_loopw [5] (fun i wr => ∃ k : Nat, k ≤ ps.length ∧ i = .int .i64 k ∧ Below w.heap.size w wr) (fun i _ => ps.length - (intOf i).toNat)
  case atStart => exact ⟨0, Nat.zero_le _, rfl, Below.refl _ _⟩
  case round =>
    obtain ⟨k, hk, rfl, hbel⟩ := hrel
    by_cases hlt : k < ps.length
    · obtain ⟨ad, A1, c1, rfl, a1, a2, a3⟩ := (HA.out.below hbel).at' k hlt
      obtain ⟨bd, B1, d1, rfl, b1, b2, b3⟩ := (HB.out.below hbel).at' k hlt
      have s1 := fun m => conv_rd (w := wr.drewN m) a3 _ c1 rfl
      have s2 := fun m => conv_rd (w := wr.drewN m) b3 _ d1 rfl
      generalize ps[k] = X at *
      generalize hX : X.length = n at *
      generalize strV X = Y at *
      clear a2 a3 b2 b3 hX
      go_wp2
      go_quiet (fail)
      go_wp2
      go_roundw
      case rel => exact ⟨k + 1, by omega, by go_num, by repeat first | exact hbel | refine drew_below ?_ _⟩
      case measure => simp [intOf]; omega
    · go_wp2
      go_ret
      exact ⟨rfl, hbel⟩
end Go.Proofs.Ytpdigpfjmpaooaa
