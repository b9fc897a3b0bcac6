import Derived.Test.YtjaakhjfpigdfaaCA
import Derived.Laws.Tables
/-! A MAC that sums what comes: its cells; Write. -/
namespace Go.Proofs.Ytjaakhjfpigdfaa
open Go.RowKit
set_option linter.unusedVariables false
set_option linter.unusedSimpArgs false
def macA (k : By) (h : Nat) : Array Value := V8 k ++ #[.pointer (some ⟨h, 0, none⟩)]
theorem macA_size (k : By) (h : Nat) (hk : k.length = 64) : (macA k h).size = 65 := by unfold macA; rw [Array.size_append, V8_size, hk]; rfl
theorem macA_ptr (k : By) (h : Nat) (hk : k.length = 64) : (macA k h)[64]? = some (.pointer (some ⟨h, 0, none⟩)) := by
  unfold macA
  rw [Array.getElem?_append_right (by rw [V8_size, hk]; decide), V8_size, hk]; rfl
theorem macA_key (k : By) (h : Nat) (hk : k.length = 64) (j : Nat) (v : Value) (hv : (V8 k)[j]? = some v) : (macA k h)[j]? = some v := by
  have hj : j < (V8 k).size := (Array.getElem?_eq_some_iff.1 hv).1
  unfold macA
  rw [Array.getElem?_append_left hj]; exact hv
theorem built76 (parts : List (Nat × Value)) : Try.prog.built 76 parts = Instr.fill ((#[(0, 64), (64, 1)] : Array (Nat × Nat))[·]?) Try.zeroCells76 parts := by kernel_rfl
theorem mac_built (k : By) (h : Nat) (hk : k.length = 64) : Try.prog.built 76 [(0, .agg (V8 k)), (1, .pointer (some ⟨h, 0, none⟩))] = some (macA k h) := by
  rw [built76]
  have hz : Try.zeroCells76.size = 65 := by kernel_rfl
  obtain ⟨Z, hZ⟩ : ∃ Z, Try.zeroCells76 = Z := ⟨_, rfl⟩
  rw [hZ] at hz ⊢
  have h1 : (Value.agg (V8 k)).cells = V8 k := rfl
  have h2 : (Value.pointer (some ⟨h, 0, none⟩)).cells = #[.pointer (some ⟨h, 0, none⟩)] := rfl
  have s1 : (V8 k).size = 64 := by rw [V8_size, hk]
  obtain ⟨f1, f2⟩ := Go.Great.foldl_set 0 (V8 k).toList 0 Z
  unfold Instr.fill
  simp only [h1, show (#[(0, 64), (64, 1)] : Array (Nat × Nat))[0]? = some (0, 64) from rfl, s1, hz]
  rw [if_neg (by simp)]
  unfold Instr.fill
  simp only [h2, show (#[(0, 64), (64, 1)] : Array (Nat × Nat))[1]? = some (64, 1) from rfl]
  have e1 : Array.foldl (fun (cs : Array Value) (x : Value × Nat) => cs.setIfInBounds (0 + x.snd) x.fst) Z (V8 k).zipIdx = (V8 k).toList.zipIdx.foldl (fun cs (x : Value × Nat) => cs.setIfInBounds (0 + x.snd) x.fst) Z := by
    rw [← Array.foldl_toList, Array.toList_zipIdx]
  rw [e1]
  obtain ⟨Y, hY⟩ : ∃ Y, (V8 k).toList.zipIdx.foldl (fun cs (x : Value × Nat) => cs.setIfInBounds (0 + x.snd) x.fst) Z = Y := ⟨_, rfl⟩
  rw [hY] at f1 f2 ⊢
  rw [if_neg (by rw [f1, hz]; simp)]
  unfold Instr.fill
  congr 1
  have e2 : Array.foldl (fun (cs : Array Value) (x : Value × Nat) => cs.setIfInBounds (64 + x.snd) x.fst) Y (#[Value.pointer (some ⟨h, 0, none⟩)] : Array Value).zipIdx = Y.setIfInBounds 64 (.pointer (some ⟨h, 0, none⟩)) := by
    rw [← Array.foldl_toList, Array.toList_zipIdx]; rfl
  rw [e2]
  apply Array.ext_getElem?
  intro j
  by_cases hj : j = 64
  · subst hj
    rw [macA_ptr k h hk, Array.getElem?_setIfInBounds_self_of_lt (by omega)]
  · rw [Array.getElem?_setIfInBounds_ne (by omega), f2 j]
    by_cases hlt : j < 64
    · rw [if_pos ⟨by omega, by rw [Array.length_toList, s1]; omega, by omega⟩]
      unfold macA
      rw [Array.getElem?_append_left (by omega)]
      simp
    · rw [if_neg (by rw [Array.length_toList, s1]; omega), Array.getElem?_eq_none (by omega), Array.getElem?_eq_none (by rw [macA_size k h hk]; omega)]
/-- A MAC at g with its hash at h, that took l. -/
def MacAt (w : World) (g h : Nat) (k l : By) : Prop := w.heap[g]? = some (.cells (macA (keyB k) h) 76 (0, 0)) ∧ HashAt w h (xorB (keyB k) 0x36#8 ++ l) ∧ g ≠ h
theorem MacAt.below {w w' : World} {g h : Nat} {k l : By} (hm : MacAt w g h k l) (hb : Below w.heap.size w w') : MacAt w' g h k l :=
  ⟨keepH hb hm.1, hm.2.1.below hb, hm.2.2⟩
set_option maxRecDepth 100000 in
theorem mwrite_any (g h : Nat) (k l b : By) (bv : Value) (w : World) (hm : MacAt w g h k l) (hb : EqN w b bv) (hl : l.length + b.length ≤ 1000000) : Calls Try.prog 56 #[.pointer (some ⟨g, 0, none⟩), bv] w fun e w' => e = .returned (.int .i64 0) ∧ MacAt w' g h k (l ++ b) ∧ Bes h w w' := by
  obtain ⟨hc, hh, hne⟩ := hm
  have hkb := keyB_len k
  have q : w.cell? ⟨g, 64, none⟩ = some (.pointer (some ⟨h, 0, none⟩)) := by rw [Joins.cell_of_block hc]; exact macA_ptr _ _ hkb
  have WR := Lib.hid (hwrite_any h _ b bv w hh hb (by rw [List.length_append, xorB_len, hkb]; omega))
  have HC := Lib.hid hc
  have hgl : g < w.heap.size := (Array.getElem?_eq_some_iff.1 hc).1
  clear hc hh hb hkb
  go_enter Try.func56, Try.ntmps56
  go_wp2_with fail
  refine WR.out.mono ?_
  rintro e w2 ⟨rfl, h2, b2⟩
  have H2 := Lib.hid (show MacAt w2 g h k (l ++ b) from ⟨by rw [b2.block g hgl hne]; exact HC.out, by rw [← List.append_assoc]; exact h2, hne⟩)
  have B2 := Lib.hid b2
  clear WR h2 b2 q
  go_wp2
  go_ret
  exact ⟨rfl, H2.out, B2.out⟩
end Go.Proofs.Ytjaakhjfpigdfaa
