import Derived.Test.YtjaakhjfpigdfaaC7
/-! The MAC that everybody knows: found by the kernel, step by step. -/
namespace Go.Proofs.Ytjaakhjfpigdfaa
open Go.RowKit
set_option linter.unusedVariables false
set_option linter.unusedSimpArgs false
def awKey : By := [74#8, 101#8, 102#8, 101#8]
def awMsg : By := [119#8, 104#8, 97#8, 116#8, 32#8, 100#8, 111#8, 32#8, 121#8, 97#8, 32#8, 119#8, 97#8, 110#8, 116#8, 32#8, 102#8, 111#8, 114#8, 32#8, 110#8, 111#8, 116#8, 104#8, 105#8, 110#8, 103#8, 63#8]
def awKb : By := [74#8, 101#8, 102#8, 101#8, 0#8, 0#8, 0#8, 0#8, 0#8, 0#8, 0#8, 0#8, 0#8, 0#8, 0#8, 0#8, 0#8, 0#8, 0#8, 0#8, 0#8, 0#8, 0#8, 0#8, 0#8, 0#8, 0#8, 0#8, 0#8, 0#8, 0#8, 0#8, 0#8, 0#8, 0#8, 0#8, 0#8, 0#8, 0#8, 0#8, 0#8, 0#8, 0#8, 0#8, 0#8, 0#8, 0#8, 0#8, 0#8, 0#8, 0#8, 0#8, 0#8, 0#8, 0#8, 0#8, 0#8, 0#8, 0#8, 0#8, 0#8, 0#8, 0#8, 0#8]
def awM1 : By := [124#8, 83#8, 80#8, 83#8, 54#8, 54#8, 54#8, 54#8, 54#8, 54#8, 54#8, 54#8, 54#8, 54#8, 54#8, 54#8, 54#8, 54#8, 54#8, 54#8, 54#8, 54#8, 54#8, 54#8, 54#8, 54#8, 54#8, 54#8, 54#8, 54#8, 54#8, 54#8, 54#8, 54#8, 54#8, 54#8, 54#8, 54#8, 54#8, 54#8, 54#8, 54#8, 54#8, 54#8, 54#8, 54#8, 54#8, 54#8, 54#8, 54#8, 54#8, 54#8, 54#8, 54#8, 54#8, 54#8, 54#8, 54#8, 54#8, 54#8, 54#8, 54#8, 54#8, 54#8, 119#8, 104#8, 97#8, 116#8, 32#8, 100#8, 111#8, 32#8, 121#8, 97#8, 32#8, 119#8, 97#8, 110#8, 116#8, 32#8, 102#8, 111#8, 114#8, 32#8, 110#8, 111#8, 116#8, 104#8, 105#8, 110#8, 103#8, 63#8]
def awM2 : By := [22#8, 57#8, 58#8, 57#8, 92#8, 92#8, 92#8, 92#8, 92#8, 92#8, 92#8, 92#8, 92#8, 92#8, 92#8, 92#8, 92#8, 92#8, 92#8, 92#8, 92#8, 92#8, 92#8, 92#8, 92#8, 92#8, 92#8, 92#8, 92#8, 92#8, 92#8, 92#8, 92#8, 92#8, 92#8, 92#8, 92#8, 92#8, 92#8, 92#8, 92#8, 92#8, 92#8, 92#8, 92#8, 92#8, 92#8, 92#8, 92#8, 92#8, 92#8, 92#8, 92#8, 92#8, 92#8, 92#8, 92#8, 92#8, 92#8, 92#8, 92#8, 92#8, 92#8, 92#8, 162#8, 228#8, 133#8, 134#8, 61#8, 39#8, 249#8, 216#8, 100#8, 172#8, 141#8, 128#8, 36#8, 50#8, 161#8, 237#8, 71#8, 125#8, 140#8, 76#8, 111#8, 52#8, 157#8, 22#8, 212#8, 231#8, 233#8, 23#8, 198#8, 41#8, 202#8, 215#8]
def awB0 : By := [124#8, 83#8, 80#8, 83#8, 54#8, 54#8, 54#8, 54#8, 54#8, 54#8, 54#8, 54#8, 54#8, 54#8, 54#8, 54#8, 54#8, 54#8, 54#8, 54#8, 54#8, 54#8, 54#8, 54#8, 54#8, 54#8, 54#8, 54#8, 54#8, 54#8, 54#8, 54#8, 54#8, 54#8, 54#8, 54#8, 54#8, 54#8, 54#8, 54#8, 54#8, 54#8, 54#8, 54#8, 54#8, 54#8, 54#8, 54#8, 54#8, 54#8, 54#8, 54#8, 54#8, 54#8, 54#8, 54#8, 54#8, 54#8, 54#8, 54#8, 54#8, 54#8, 54#8, 54#8]
def awB1 : By := [119#8, 104#8, 97#8, 116#8, 32#8, 100#8, 111#8, 32#8, 121#8, 97#8, 32#8, 119#8, 97#8, 110#8, 116#8, 32#8, 102#8, 111#8, 114#8, 32#8, 110#8, 111#8, 116#8, 104#8, 105#8, 110#8, 103#8, 63#8, 128#8, 0#8, 0#8, 0#8, 0#8, 0#8, 0#8, 0#8, 0#8, 0#8, 0#8, 0#8, 0#8, 0#8, 0#8, 0#8, 0#8, 0#8, 0#8, 0#8, 0#8, 0#8, 0#8, 0#8, 0#8, 0#8, 0#8, 0#8, 0#8, 0#8, 0#8, 0#8, 0#8, 0#8, 2#8, 224#8]
def awC0 : By := [22#8, 57#8, 58#8, 57#8, 92#8, 92#8, 92#8, 92#8, 92#8, 92#8, 92#8, 92#8, 92#8, 92#8, 92#8, 92#8, 92#8, 92#8, 92#8, 92#8, 92#8, 92#8, 92#8, 92#8, 92#8, 92#8, 92#8, 92#8, 92#8, 92#8, 92#8, 92#8, 92#8, 92#8, 92#8, 92#8, 92#8, 92#8, 92#8, 92#8, 92#8, 92#8, 92#8, 92#8, 92#8, 92#8, 92#8, 92#8, 92#8, 92#8, 92#8, 92#8, 92#8, 92#8, 92#8, 92#8, 92#8, 92#8, 92#8, 92#8, 92#8, 92#8, 92#8, 92#8]
def awC1 : By := [162#8, 228#8, 133#8, 134#8, 61#8, 39#8, 249#8, 216#8, 100#8, 172#8, 141#8, 128#8, 36#8, 50#8, 161#8, 237#8, 71#8, 125#8, 140#8, 76#8, 111#8, 52#8, 157#8, 22#8, 212#8, 231#8, 233#8, 23#8, 198#8, 41#8, 202#8, 215#8, 128#8, 0#8, 0#8, 0#8, 0#8, 0#8, 0#8, 0#8, 0#8, 0#8, 0#8, 0#8, 0#8, 0#8, 0#8, 0#8, 0#8, 0#8, 0#8, 0#8, 0#8, 0#8, 0#8, 0#8, 0#8, 0#8, 0#8, 0#8, 0#8, 0#8, 3#8, 0#8]
def awD1 : By := [162#8, 228#8, 133#8, 134#8, 61#8, 39#8, 249#8, 216#8, 100#8, 172#8, 141#8, 128#8, 36#8, 50#8, 161#8, 237#8, 71#8, 125#8, 140#8, 76#8, 111#8, 52#8, 157#8, 22#8, 212#8, 231#8, 233#8, 23#8, 198#8, 41#8, 202#8, 215#8]
def awD2 : By := [91#8, 220#8, 193#8, 70#8, 191#8, 96#8, 117#8, 78#8, 106#8, 4#8, 36#8, 38#8, 8#8, 149#8, 117#8, 199#8, 90#8, 0#8, 63#8, 8#8, 157#8, 39#8, 57#8, 131#8, 157#8, 236#8, 88#8, 185#8, 100#8, 236#8, 56#8, 67#8]
def awS1 : List W32 := [0x655da7fa#32, 0xcc434b37#32, 0x5a1cd5cb#32, 0x0692ee0e#32, 0xa47a23d3#32, 0x4c3af449#32, 0xdba21ae2#32, 0x78c7500c#32]
def awS2 : List W32 := [0xa2e48586#32, 0x3d27f9d8#32, 0x64ac8d80#32, 0x2432a1ed#32, 0x477d8c4c#32, 0x6f349d16#32, 0xd4e7e917#32, 0xc629cad7#32]
def awT1 : List W32 := [0x0eafe3d5#32, 0x13412e6c#32, 0x6a6a2feb#32, 0x2d375acc#32, 0x51a4fd47#32, 0x6db095e8#32, 0x23bfa18a#32, 0x52f141d5#32]
def awT2 : List W32 := [0x5bdcc146#32, 0xbf60754e#32, 0x6a042426#32, 0x089575c7#32, 0x5a003f08#32, 0x9d273983#32, 0x9dec58b9#32, 0x64ec3843#32]
theorem aw_kb : keyB awKey = awKb := by kernel_rfl
theorem aw_m1 : xorB awKb 0x36#8 ++ awMsg = awM1 := by kernel_rfl
theorem aw_p1 : awM1 ++ padL awM1.length = awB0 ++ awB1 := by kernel_rfl
theorem aw_s1 : stepL startL awB0 = awS1 := by kernel_rfl
theorem aw_s2 : stepL awS1 awB1 = awS2 := by kernel_rfl
theorem aw_d1 : digL awS2 = awD1 := by kernel_rfl
theorem aw_m2 : xorB awKb 0x5c#8 ++ awD1 = awM2 := by kernel_rfl
theorem aw_p2 : awM2 ++ padL awM2.length = awC0 ++ awC1 := by kernel_rfl
theorem aw_t1 : stepL startL awC0 = awT1 := by kernel_rfl
theorem aw_t2 : stepL awT1 awC1 = awT2 := by kernel_rfl
theorem aw_d2 : digL awT2 = awD2 := by kernel_rfl
theorem aw_text : textL awD2 = [53, 98, 100, 99, 99, 49, 52, 54, 98, 102, 54, 48, 55, 53, 52, 101, 54, 97, 48, 52, 50, 52, 50, 54, 48, 56, 57, 53, 55, 53, 99, 55, 53, 97, 48, 48, 51, 102, 48, 56, 57, 100, 50, 55, 51, 57, 56, 51, 57, 100, 101, 99, 53, 56, 98, 57, 54, 52, 101, 99, 51, 56, 52, 51] := by kernel_rfl
theorem two_blocks (B C : By) (hb : B.length = 64) (hc : C.length = 64) : stL (B ++ C) = stepL (stepL startL B) C := by
  have h0 : blk (B ++ C) 0 = B := by
    unfold blk
    rw [show 64 * 0 = 0 from rfl, List.drop_zero, ← hb, List.take_left]
  have h1 : blk (B ++ C) 1 = C := by
    unfold blk
    rw [show 64 * 1 = B.length by omega, List.drop_left, ← hc, List.take_length]
  unfold stL nb
  rw [List.length_append, hb, hc]
  show stepL (stepL startL (blk (B ++ C) 0)) (blk (B ++ C) 1) = _
  rw [h0, h1]
theorem aw_sum1 : sumL awM1 = awD1 := by
  unfold sumL
  rw [aw_p1, two_blocks awB0 awB1 rfl rfl, aw_s1, aw_s2, aw_d1]
theorem aw_sum2 : sumL awM2 = awD2 := by
  unfold sumL
  rw [aw_p2, two_blocks awC0 awC1 rfl rfl, aw_t1, aw_t2, aw_d2]
theorem aw_mac : macL awKey awMsg = awD2 := by
  unfold macL
  rw [aw_kb, aw_m1, aw_sum1, aw_m2, aw_sum2]
theorem RdN.new3 (W : World) (p q r : By) (v u x : Value) (e : TypeId) (m : Nat × Nat) (g : Nat) (hg : g = W.heap.size) (h : EqN W p v) (k : EqN W q u) (l : EqN W r x) : RdN (W.alloc (.cells #[v, u, x] e m)) (some ⟨g, 0, none⟩) [p, q, r] := by
  subst hg
  refine RdR.new W [p, q, r] _ e m (by simp) fun j hj => ?_
  match j, hj with
  | 0, _ => exact ⟨_, rfl, h.alloc _⟩
  | 1, _ => exact ⟨_, rfl, k.alloc _⟩
  | 2, _ => exact ⟨_, rfl, l.alloc _⟩
set_option maxRecDepth 100000 in
set_option maxHeartbeats 4000000 in
theorem awake4_any (w : World) : Calls Try.prog 44 #[] w fun e w' => e = .returned (.bool true) ∧ Below w.heap.size w w' := by
  have k1' := Lib.run_convert_bytes_const (P := Try.prog) w 35 5 #[.int .u8 74, .int .u8 101, .int .u8 102, .int .u8 101] 4 4 Try.underlying35 Try.underlying5
  have k2' := Joins.run_convert_bytes_const_at (P := Try.prog) (w.alloc (.cells #[.int .u8 74, .int .u8 101, .int .u8 102, .int .u8 101] 5 (4, 5))) 35 5 #[.int .u8 119, .int .u8 104, .int .u8 97, .int .u8 116, .int .u8 32, .int .u8 100, .int .u8 111, .int .u8 32, .int .u8 121, .int .u8 97, .int .u8 32, .int .u8 119, .int .u8 97, .int .u8 110, .int .u8 116, .int .u8 32] 16 16 (w.heap.size + 1) (by simp) Try.underlying35 Try.underlying5
  have k3' := Joins.run_convert_bytes_const_at (P := Try.prog) ((w.alloc (.cells #[.int .u8 74, .int .u8 101, .int .u8 102, .int .u8 101] 5 (4, 5))).alloc (.cells #[.int .u8 119, .int .u8 104, .int .u8 97, .int .u8 116, .int .u8 32, .int .u8 100, .int .u8 111, .int .u8 32, .int .u8 121, .int .u8 97, .int .u8 32, .int .u8 119, .int .u8 97, .int .u8 110, .int .u8 116, .int .u8 32] 5 (16, 17))) 35 5 #[.int .u8 102, .int .u8 111, .int .u8 114, .int .u8 32, .int .u8 110, .int .u8 111, .int .u8 116, .int .u8 104, .int .u8 105, .int .u8 110, .int .u8 103, .int .u8 63] 12 12 (w.heap.size + 1 + 1) (by simp) Try.underlying35 Try.underlying5
  go_enter Try.func44, Try.ntmps44
  go_wp2_with fail
  have e1 : EqN (w.alloc (.cells #[.int .u8 74, .int .u8 101, .int .u8 102, .int .u8 101] 5 (4, 5))) awKey (.slice (some ⟨w.heap.size, 0, none⟩) 4 4) := EqN.new w _ _ _ _ _ rfl 4 4 rfl (by omega) (by decide) rfl
  have e2 : EqN ((w.alloc (.cells #[.int .u8 74, .int .u8 101, .int .u8 102, .int .u8 101] 5 (4, 5))).alloc (.cells #[.int .u8 119, .int .u8 104, .int .u8 97, .int .u8 116, .int .u8 32, .int .u8 100, .int .u8 111, .int .u8 32, .int .u8 121, .int .u8 97, .int .u8 32, .int .u8 119, .int .u8 97, .int .u8 110, .int .u8 116, .int .u8 32] 5 (16, 17))) [119#8, 104#8, 97#8, 116#8, 32#8, 100#8, 111#8, 32#8, 121#8, 97#8, 32#8, 119#8, 97#8, 110#8, 116#8, 32#8] (.slice (some ⟨w.heap.size + 1, 0, none⟩) 16 16) := EqN.new _ _ _ _ _ _ (by simp) 16 16 rfl (by omega) (by decide) rfl
  have e3 : EqN (((w.alloc (.cells #[.int .u8 74, .int .u8 101, .int .u8 102, .int .u8 101] 5 (4, 5))).alloc (.cells #[.int .u8 119, .int .u8 104, .int .u8 97, .int .u8 116, .int .u8 32, .int .u8 100, .int .u8 111, .int .u8 32, .int .u8 121, .int .u8 97, .int .u8 32, .int .u8 119, .int .u8 97, .int .u8 110, .int .u8 116, .int .u8 32] 5 (16, 17))).alloc (.cells #[.int .u8 102, .int .u8 111, .int .u8 114, .int .u8 32, .int .u8 110, .int .u8 111, .int .u8 116, .int .u8 104, .int .u8 105, .int .u8 110, .int .u8 103, .int .u8 63] 5 (12, 13))) [102#8, 111#8, 114#8, 32#8, 110#8, 111#8, 116#8, 104#8, 105#8, 110#8, 103#8, 63#8] (.slice (some ⟨w.heap.size + 1 + 1, 0, none⟩) 12 12) := EqN.new _ _ _ _ _ _ (by simp) 12 12 rfl (by omega) (by decide) rfl
  have hr := RdN.new2 _ _ _ _ _ 35 (0, 0) (w.heap.size + 1 + 1 + 1) (by simp) (e2.alloc (.cells #[.int .u8 102, .int .u8 111, .int .u8 114, .int .u8 32, .int .u8 110, .int .u8 111, .int .u8 116, .int .u8 104, .int .u8 105, .int .u8 110, .int .u8 103, .int .u8 63] 5 (12, 13))) e3
  have hk := ((e1.alloc (.cells #[.int .u8 119, .int .u8 104, .int .u8 97, .int .u8 116, .int .u8 32, .int .u8 100, .int .u8 111, .int .u8 32, .int .u8 121, .int .u8 97, .int .u8 32, .int .u8 119, .int .u8 97, .int .u8 110, .int .u8 116, .int .u8 32] 5 (16, 17))).alloc (.cells #[.int .u8 102, .int .u8 111, .int .u8 114, .int .u8 32, .int .u8 110, .int .u8 111, .int .u8 116, .int .u8 104, .int .u8 105, .int .u8 110, .int .u8 103, .int .u8 63] 5 (12, 13))).alloc (.cells #[.slice (some ⟨w.heap.size + 1, 0, none⟩) 16 16, .slice (some ⟨w.heap.size + 1 + 1, 0, none⟩) 12 12] 35)
  have SM := Lib.hid (msum_any awKey _ [[119#8, 104#8, 97#8, 116#8, 32#8, 100#8, 111#8, 32#8, 121#8, 97#8, 32#8, 119#8, 97#8, 110#8, 116#8, 32#8], [102#8, 111#8, 114#8, 32#8, 110#8, 111#8, 116#8, 104#8, 105#8, 110#8, 103#8, 63#8]] ⟨w.heap.size + 1 + 1 + 1, 0, none⟩ 2 _ hk (by decide) hr (by decide) (by decide) (by decide))
  rw [show [[119#8, 104#8, 97#8, 116#8, 32#8, 100#8, 111#8, 32#8, 121#8, 97#8, 32#8, 119#8, 97#8, 110#8, 116#8, 32#8], [102#8, 111#8, 114#8, 32#8, 110#8, 111#8, 116#8, 104#8, 105#8, 110#8, 103#8, 63#8]].flatten = awMsg from rfl, aw_mac] at SM
  have b0 : Below w.heap.size w ((((w.alloc (.cells #[.int .u8 74, .int .u8 101, .int .u8 102, .int .u8 101] 5 (4, 5))).alloc (.cells #[.int .u8 119, .int .u8 104, .int .u8 97, .int .u8 116, .int .u8 32, .int .u8 100, .int .u8 111, .int .u8 32, .int .u8 121, .int .u8 97, .int .u8 32, .int .u8 119, .int .u8 97, .int .u8 110, .int .u8 116, .int .u8 32] 5 (16, 17))).alloc (.cells #[.int .u8 102, .int .u8 111, .int .u8 114, .int .u8 32, .int .u8 110, .int .u8 111, .int .u8 116, .int .u8 104, .int .u8 105, .int .u8 110, .int .u8 103, .int .u8 63] 5 (12, 13))).alloc (.cells #[.slice (some ⟨w.heap.size + 1, 0, none⟩) 16 16, .slice (some ⟨w.heap.size + 1 + 1, 0, none⟩) 12 12] 35)) := ((((Below.refl _ _).alloc (Nat.le_refl _) _).alloc (by simp) _).alloc (by simp; omega) _).alloc (by simp; omega) _
  obtain ⟨W, hW⟩ : ∃ W, ((((w.alloc (.cells #[.int .u8 74, .int .u8 101, .int .u8 102, .int .u8 101] 5 (4, 5))).alloc (.cells #[.int .u8 119, .int .u8 104, .int .u8 97, .int .u8 116, .int .u8 32, .int .u8 100, .int .u8 111, .int .u8 32, .int .u8 121, .int .u8 97, .int .u8 32, .int .u8 119, .int .u8 97, .int .u8 110, .int .u8 116, .int .u8 32] 5 (16, 17))).alloc (.cells #[.int .u8 102, .int .u8 111, .int .u8 114, .int .u8 32, .int .u8 110, .int .u8 111, .int .u8 116, .int .u8 104, .int .u8 105, .int .u8 110, .int .u8 103, .int .u8 63] 5 (12, 13))).alloc (.cells #[.slice (some ⟨w.heap.size + 1, 0, none⟩) 16 16, .slice (some ⟨w.heap.size + 1 + 1, 0, none⟩) 12 12] 35)) = W := ⟨_, rfl⟩
  rw [hW] at SM b0 ⊢
  replace b0 := Lib.hid b0
  clear hW hr hk e1 e2 e3 k1' k2' k3'
  refine SM.out.mono ?_
  rintro e w2 ⟨rfl, hb2⟩
  have TX := Lib.hid (rtext_any awD2 rfl w2)
  rw [aw_text] at TX
  have B2 := Lib.hid (b0.out.trans (hb2.mono b0.out.size))
  clear SM hb2 b0
  obtain ⟨D, hD⟩ : ∃ D, awD2 = D := ⟨_, rfl⟩
  rw [hD] at TX ⊢
  clear hD
  go_wp2_with fail
  refine TX.out.mono ?_
  rintro e w3 ⟨rfl, hb3⟩
  have B3 := Lib.hid (B2.out.trans (hb3.mono B2.out.size))
  clear TX hb3 B2
  go_wp2
  go_ret
  exact ⟨rfl, B3.out⟩
end Go.Proofs.Ytjaakhjfpigdfaa
