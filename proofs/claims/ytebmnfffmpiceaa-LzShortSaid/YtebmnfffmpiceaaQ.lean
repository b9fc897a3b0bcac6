import Derived.Test.YtebmnfffmpiceaaO
import Derived.Test.YtebmnfffmpiceaaP
import Derived.Laws.BytesArg
import Derived.Laws.BytesString
/-! Same; awake. -/
namespace Go.Proofs.Ytebmnfffmpiceaa
open Go.RowKit
set_option linter.unusedVariables false
set_option linter.unusedSimpArgs false
set_option maxRecDepth 100000 in
set_option maxHeartbeats 4000000 in
theorem same_yes (l : List Tok) (A B : Option Addr) (c d : Nat) (w : World) (hA : RdT w A l) (hB : RdT w B l) (hc : l.length ≤ c) (hd : l.length ≤ d) :
    Calls Try.prog 13 #[.slice A l.length c, .slice B l.length d] w fun e w' => e = .returned (.bool true) ∧ Below w.heap.size w w' := by
  have hm := hA.1
  have HA := Lib.hid hA
  have HB := Lib.hid hB
  clear hA hB
  go_enter Try.func13, Try.ntmps13
  go_wp2
  go_loopw [5] (fun i wr => ∃ k : Nat, k ≤ l.length ∧ i = .int .i64 k ∧ Below w.heap.size w wr) (fun i _ => l.length - (intOf i).toNat)
  case atStart => exact ⟨0, Nat.zero_le _, rfl, Below.refl _ _⟩
  case round =>
    obtain ⟨k, hk, rfl, hbel⟩ := hrel
    by_cases hlt : k < l.length
    · obtain ⟨ad, rfl, a0, a1, a2⟩ := (HA.out.below hbel).2 k hlt
      obtain ⟨bd, rfl, b0, b1, b2⟩ := (HB.out.below hbel).2 k hlt
      obtain ⟨⟨x, y, z⟩, ht⟩ : ∃ t, l[k] = t := ⟨_, rfl⟩
      rw [ht] at a0 a1 a2 b0 b1 b2
      simp only at a0 a1 a2 b0 b1 b2
      clear ht
      go_wp2
      go_quiet (fail)
      go_wp2
      go_roundw
      case rel => exact ⟨k + 1, by omega, by go_num, by repeat first | exact hbel | exact below_dr hbel _⟩
      case measure => simp [intOf]; omega
    · go_wp2
      go_ret
      exact ⟨rfl, hbel⟩
def strV (l : List (BitVec 8)) : ByteArray := strOfNums (l.map fun c => (c.toNat : Int))
theorem conv_rd {w : World} {A : Option Addr} {l : List (BitVec 8)} (h : RdB w A l) (n c : Nat) (hn : n = l.length) : (convert 22 9 (.slice A n c)).run Try.prog w = .ok (.string (strV l)) w := by
  subst hn
  rcases A with _ | ad
  · have h0 : l = [] := by
      rcases Nat.eq_zero_or_pos l.length with h0 | h0
      · exact List.eq_nil_of_length_eq_zero h0
      · obtain ⟨ad, e, _⟩ := h.at' 0 h0; cases e
    subst h0
    exact run_convert_bytes_nil w 22 5 Try.underlying22 Try.underlying5 0 c 9 Try.underlying9
  · have hl : (loadCells ad l.length).run Try.prog w = .ok ((l.map fun c => (c.toNat : Int)).map (Value.int .u8)).toArray w := by
      have := run_loadCells_list (P := Try.prog) w ad ((l.map fun c => (c.toNat : Int)).map (Value.int .u8)) (fun j v hj => by
        obtain ⟨hj1, hj2⟩ := List.getElem?_eq_some_iff.1 hj
        have hj' : j < l.length := by simpa using hj1
        obtain ⟨ad', e, hc⟩ := h.at' j hj'
        obtain rfl := Option.some.inj e
        rw [hc, ← hj2]; simp)
      simpa using this
    rw [run_convert_bytes_string w 22 9 5 _ l.length c Try.underlying22 Try.underlying5 Try.underlying9, run_bytesToString w _ l.length c _ hl, foldl_push_bytes]
    simp [strV, strOfNums, ByteArray.empty, ByteArray.emptyWithCapacity]
    rfl
/-- A row of bytes of one's own, as it is read. -/
theorem own_bytes {w : World} {base n : Nat} {e : TypeId} {v : Value} {l : By} (h : w.ownsRow base e 1 v n (bytesV l)) : ∃ A c, v = .slice A l.length c ∧ l.length ≤ c ∧ RdB w A l := by
  have hl : l.length = n := by have := h.1; simpa [bytesV] using this
  rcases Joins.ownsRow_forms h with ⟨rfl, h0⟩ | ⟨g, cap, rfl⟩
  · obtain rfl : l = [] := List.eq_nil_of_length_eq_zero (by omega)
    exact ⟨none, 0, rfl, by simp, by simp, fun j hj => by simp at hj⟩
  · exact ⟨_, cap, by rw [hl], by rw [hl]; exact own_cap h, RdB.own h⟩
def AB : By := [97, 98, 99, 97, 98, 99, 97, 98, 99, 100]
theorem AB_toks : toks AB 0 = [(0, 1, 97), (0, 1, 98), (0, 1, 99), (3, 6, 0), (0, 1, 100)] := by kernel_rfl
set_option maxRecDepth 100000 in
set_option maxHeartbeats 4000000 in
theorem awake_any (w : World) : Calls Try.prog 14 #[] w fun e w' => e = .returned (.bool true) ∧ Below w.heap.size w w' := by
  have TK := fun w1 A h => tokens_ok AB A 10 w1 h (by decide) (by decide)
  have BT := back AB (by decide)
  rw [AB_toks] at TK BT
  replace TK := Lib.hid TK
  replace BT := Lib.hid BT
  have bA : Below w.heap.size w (w.alloc (.cells #[.int .u8 97, .int .u8 98, .int .u8 99, .int .u8 97, .int .u8 98, .int .u8 99, .int .u8 97, .int .u8 98, .int .u8 99, .int .u8 100] 5 (10, 11))) := (Below.refl _ _).alloc (Nat.le_refl _) _
  have rA : RdB (w.alloc (.cells #[.int .u8 97, .int .u8 98, .int .u8 99, .int .u8 97, .int .u8 98, .int .u8 99, .int .u8 97, .int .u8 98, .int .u8 99, .int .u8 100] 5 (10, 11))) (some ⟨w.heap.size, 0, none⟩) AB := RdB.new' w AB _ 5 _ (by decide) rfl
  have kc := fun (n c : Nat) => Lib.run_convert_bytes_const (P := Try.prog) w 22 5 #[.int .u8 97, .int .u8 98, .int .u8 99, .int .u8 97, .int .u8 98, .int .u8 99, .int .u8 97, .int .u8 98, .int .u8 99, .int .u8 100] n c Try.underlying22 Try.underlying5
  go_enter Try.func14, Try.ntmps14
  go_wp2_with fail
  refine (TK.out _ _ rA).mono ?_
  rintro e w1 ⟨v, rfl, hown, b1⟩
  obtain ⟨g, c, hv⟩ := Joins.ownsRow_form hown (by decide)
  subst hv
  have HO := Lib.hid hown
  have hcc := own_cap hown
  have b01 : Below w.heap.size w w1 := bA.trans (b1.mono bA.size)
  clear hown b1 bA rA kc
  obtain ⟨A, c', e, hc, hrd⟩ := RdT.own HO.out
  cases e
  have BY := bytes_any _ (some ⟨g, 0, none⟩) c w1 hrd hcc
  rw [BT.out] at BY
  replace BY := Lib.hid BY
  clear hc hrd
  go_wp2_with fail
  refine BY.out.mono ?_
  rintro e w2 ⟨u, rfl, hou, _, b2⟩
  obtain ⟨A2, c2, rfl, hc2, hrd2⟩ := own_bytes hou
  have CV := conv_rd (w := w2) hrd2 AB.length c2 rfl
  rw [show strV AB = ByteArray.mk #[97, 98, 99, 97, 98, 99, 97, 98, 99, 100] from by kernel_rfl] at CV
  have ho2 := own_below' HO.out b2
  have t0 : w2.cell? ⟨g, 9, none⟩ = some (.int .i64 3) := ho2.cells (g := g) rfl 9 _ rfl
  have t1 : w2.cell? ⟨g, 10, none⟩ = some (.int .i64 6) := ho2.cells (g := g) rfl 10 _ rfl
  have t2 : w2.cell? ⟨g, 11, none⟩ = some (.int .u8 0) := ho2.cells (g := g) rfl 11 _ rfl
  have b02 : Below w.heap.size w w2 := b01.trans (b2.mono b01.size)
  clear hou b2 hc2 hrd2 ho2 b01
  go_wp2
  go_ret
  exact ⟨rfl, b02⟩
end Go.Proofs.Ytebmnfffmpiceaa
