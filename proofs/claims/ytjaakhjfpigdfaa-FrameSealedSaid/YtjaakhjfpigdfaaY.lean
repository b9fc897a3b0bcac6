import Derived.Test.YtjaakhjfpigdfaaX
/-! alive: the digest of abc. -/
namespace Go.Proofs.Ytjaakhjfpigdfaa
open Go.RowKit
set_option linter.unusedVariables false
set_option linter.unusedSimpArgs false
def abc : By := [97#8, 98#8, 99#8]
theorem abc_pad : abc ++ padL 3 = abcL := by kernel_rfl
theorem abc_blk : blk abcL 0 = abcL := by kernel_rfl
theorem abc_state : stL abcL = [0xba7816bf#32, 0x8f01cfea#32, 0x414140de#32, 0x5dae2223#32, 0xb00361a3#32, 0x96177a9c#32, 0xb410ff61#32, 0xf20015ad#32] := by
  rw [← abc_step]
  show stepL startL (blk abcL 0) = _
  rw [abc_blk]
theorem abc_sum : sumL abc = digL [0xba7816bf#32, 0x8f01cfea#32, 0x414140de#32, 0x5dae2223#32, 0xb00361a3#32, 0x96177a9c#32, 0xb410ff61#32, 0xf20015ad#32] := by
  unfold sumL
  rw [show abc.length = 3 from rfl, abc_pad, abc_state]
theorem abc_text : textL (sumL abc) = [98, 97, 55, 56, 49, 54, 98, 102, 56, 102, 48, 49, 99, 102, 101, 97, 52, 49, 52, 49, 52, 48, 100, 101, 53, 100, 97, 101, 50, 50, 50, 51, 98, 48, 48, 51, 54, 49, 97, 51, 57, 54, 49, 55, 55, 97, 57, 99, 98, 52, 49, 48, 102, 102, 54, 49, 102, 50, 48, 48, 49, 53, 97, 100] := by
  rw [abc_sum]; kernel_rfl
theorem EqN.new (W : World) (l : By) (C : Array Value) (e : TypeId) (m : Nat × Nat) (g : Nat) (hg : g = W.heap.size) (n c : Nat) (hn : n = l.length) (hc : n ≤ c) (hm : l.length ≤ 9223372036854775807) (hC : C = (l.map fun x => Value.int .u8 (x.toNat : Int)).toArray) : EqN (W.alloc (.cells C e m)) l (.slice (some ⟨g, 0, none⟩) n c) := by
  subst hn
  exact ⟨_, c, rfl, hc, RdB.newAt W l C e m g hg hm hC, fun h => by cases h⟩
theorem EqN.alloc {w : World} {p : By} {v : Value} (h : EqN w p v) (o : Obj) : EqN (w.alloc o) p v := h.below (below_alloc1 w o)
theorem RdN.new1 (W : World) (p : By) (v : Value) (e : TypeId) (m : Nat × Nat) (g : Nat) (hg : g = W.heap.size) (h : EqN W p v) : RdN (W.alloc (.cells #[v] e m)) (some ⟨g, 0, none⟩) [p] := by
  subst hg
  refine RdR.new W [p] _ e m (by simp) fun j hj => ?_
  match j, hj with
  | 0, _ => exact ⟨_, rfl, h.alloc _⟩
theorem RdN.new2 (W : World) (p q : By) (v u : Value) (e : TypeId) (m : Nat × Nat) (g : Nat) (hg : g = W.heap.size) (h : EqN W p v) (k : EqN W q u) : RdN (W.alloc (.cells #[v, u] e m)) (some ⟨g, 0, none⟩) [p, q] := by
  subst hg
  refine RdR.new W [p, q] _ e m (by simp) fun j hj => ?_
  match j, hj with
  | 0, _ => exact ⟨_, rfl, h.alloc _⟩
  | 1, _ => exact ⟨_, rfl, k.alloc _⟩
set_option maxRecDepth 100000 in
set_option maxHeartbeats 4000000 in
theorem alive_any (w : World) : Calls Try.prog 27 #[] w fun e w' => e = .returned (.bool true) ∧ Below w.heap.size w w' := by
  have k1 := fun (w : World) (n c : Nat) => Lib.run_convert_bytes_const (P := Try.prog) w 35 5 #[.int .u8 97] n c Try.underlying35 Try.underlying5
  have k2 := fun (w : World) (n c g : Nat) (hg : g = w.heap.size) => Joins.run_convert_bytes_const_at (P := Try.prog) w 35 5 #[.int .u8 98, .int .u8 99] n c g hg Try.underlying35 Try.underlying5
  have k2' := k2 (w.alloc (.cells #[.int .u8 97] 5 (1, 2))) 2 2 (w.heap.size + 1) (by simp)
  have k1' := k1 w 1 1
  clear k1 k2
  go_enter Try.func27, Try.ntmps27
  go_wp2_with fail
  have e1 : EqN (w.alloc (.cells #[.int .u8 97] 5 (1, 2))) [97#8] (.slice (some ⟨w.heap.size, 0, none⟩) 1 1) := EqN.new w _ _ _ _ _ rfl 1 1 rfl (by omega) (by decide) rfl
  have e2 : EqN ((w.alloc (.cells #[.int .u8 97] 5 (1, 2))).alloc (.cells #[.int .u8 98, .int .u8 99] 5 (2, 3))) [98#8, 99#8] (.slice (some ⟨w.heap.size + 1, 0, none⟩) 2 2) := EqN.new _ _ _ _ _ _ (by simp) 2 2 rfl (by omega) (by decide) rfl
  have hr := RdN.new2 _ _ _ _ _ 35 (0, 0) (w.heap.size + 1 + 1) (by simp) (e1.alloc (.cells #[.int .u8 98, .int .u8 99] 5 (2, 3))) e2
  have SM := Lib.hid (sum_any [[97#8], [98#8, 99#8]] (some ⟨w.heap.size + 1 + 1, 0, none⟩) 2 _ hr (by decide) (by decide))
  have b0 : Below w.heap.size w (((w.alloc (.cells #[.int .u8 97] 5 (1, 2))).alloc (.cells #[.int .u8 98, .int .u8 99] 5 (2, 3))).alloc (.cells #[.slice (some ⟨w.heap.size, 0, none⟩) 1 1, .slice (some ⟨w.heap.size + 1, 0, none⟩) 2 2] 35)) := (((Below.refl _ _).alloc (Nat.le_refl _) _).alloc (by simp) _).alloc (by simp; omega) _
  obtain ⟨W, hW⟩ : ∃ W, (((w.alloc (.cells #[.int .u8 97] 5 (1, 2))).alloc (.cells #[.int .u8 98, .int .u8 99] 5 (2, 3))).alloc (.cells #[.slice (some ⟨w.heap.size, 0, none⟩) 1 1, .slice (some ⟨w.heap.size + 1, 0, none⟩) 2 2] 35)) = W := ⟨_, rfl⟩
  rw [hW] at SM b0 ⊢
  replace b0 := Lib.hid b0
  clear hW hr e1 e2 k1' k2'
  refine SM.out.mono ?_
  rintro e w2 ⟨rfl, hb2⟩
  rw [show [[97#8], [98#8, 99#8]].flatten = abc from rfl]
  have TX := Lib.hid (text_any (sumL abc) (sumL_len abc) w2)
  rw [abc_text] at TX
  have B2 := Lib.hid (b0.out.trans (hb2.mono b0.out.size))
  clear SM hb2 b0
  go_wp2_with fail
  refine TX.out.mono ?_
  rintro e w3 ⟨rfl, hb3⟩
  have B3 := Lib.hid (B2.out.trans (hb3.mono B2.out.size))
  clear TX hb3 B2
  go_wp2
  go_ret
  exact ⟨rfl, B3.out⟩
end Go.Proofs.Ytjaakhjfpigdfaa
