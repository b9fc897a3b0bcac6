import Derived.Test.YtjaakhjfpigdfaaCA
import Derived.Laws.IdiomStrings
/-! A text's bytes. -/
namespace Go.Proofs.Ytjaakhjfpigdfaa
open Go.RowKit
set_option linter.unusedVariables false
set_option linter.unusedSimpArgs false
/-- A text's bytes. -/
def strB (s : ByteArray) : By := s.data.toList.map fun u => BitVec.ofNat 8 u.toNat
theorem strB_len (s : ByteArray) : (strB s).length = s.size := by unfold strB; rw [List.length_map]; simp
theorem strB_at (s : ByteArray) (j : Nat) (h : j < s.size) : (strB s)[j]? = some (BitVec.ofNat 8 (s.data.toList.getD j 0).toNat) := by
  have hl : j < s.data.toList.length := by simpa using h
  unfold strB
  rw [List.getElem?_map, List.getD_eq_getElem?_getD, List.getElem?_eq_getElem hl]
  rfl
def strW (w : World) (s : ByteArray) : World := w.drew.alloc (.cells (bytesRow s (grownCap w s.size 0 5)) 5 ((bytesRow s (grownCap w s.size 0 5)).size, (bytesRow s (grownCap w s.size 0 5)).size + 1))
theorem conv_str (w : World) (s : ByteArray) : (convert 9 35 (.string s)).run Try.prog w = .ok (.slice (some ⟨w.heap.size, 0, none⟩) s.size (grownCap w s.size 0 5)) (strW w s) :=
  run_bytes_of_string (P := Try.prog) w 9 35 5 s Try.underlying9 Try.underlying35 Try.underlying5
theorem str_below (w : World) (s : ByteArray) : Below w.heap.size w (strW w s) := ((Below.refl _ _).drew).alloc (Nat.le_refl _) _
theorem str_size (w : World) (s : ByteArray) : (strW w s).heap.size = w.heap.size + 1 := by unfold strW; rw [size_alloc]; rfl
theorem str_eqn (w : World) (s : ByteArray) (hs : s.size ≤ 140737488351232) : EqN (strW w s) (strB s) (.slice (some ⟨w.heap.size, 0, none⟩) s.size (grownCap w s.size 0 5)) := by
  refine ⟨_, grownCap w s.size 0 5, by rw [strB_len], by rw [strB_len]; exact grownCap_ge w s.size 0 5, ⟨by rw [strB_len]; omega, fun j hj => ⟨_, .int .u8 ((strB s)[j].toNat : Int), rfl, ?_, rfl⟩⟩, fun h => by cases h⟩
  rw [add_zero_off]
  have hj' : j < s.size := by rw [← strB_len]; exact hj
  have h := strB_at s j hj'
  rw [List.getElem?_eq_getElem hj] at h
  rw [Option.some.inj h]
  refine cell_new w.drew _ 5 _ j _ ?_
  have hl : j < s.data.toList.length := by simpa using hj'
  have hl2 : j < s.data.size := by simpa using hl
  unfold bytesRow
  rw [Array.getElem?_append_left (by simpa using hl2), Array.getElem?_map, Array.getElem?_eq_getElem hl2]
  simp [hl2]
  rw [Array.getElem?_eq_getElem hl2, Option.getD_some]
/-- What a purpose's key is the MAC of. -/
def purB (s : ByteArray) (x : BitVec 64) : By := strB s ++ (0#8 :: wordBytes x 8 1)
set_option maxRecDepth 100000 in
set_option maxHeartbeats 4000000 in
theorem derive_any (k : By) (kv : Value) (s : ByteArray) (x : BitVec 64) (w : World) (hk : EqN w k kv) (hkl : k.length ≤ 1000000) (hs : s.size ≤ 100000) : Calls Try.prog 48 #[kv, .string s, .int .u64 (x.toNat : Int)] w fun e w' => e = .returned (.agg (V8 (macL k (purB s x)))) ∧ Below w.heap.size w w' := by
  have hz32 := zeros32
  have hzs32 : (V8 (List.replicate 32 0)).size = 32 := by rw [V8_size]; rfl
  obtain ⟨Zr, hZr⟩ : ∃ Z, V8 (List.replicate 32 0) = Z := ⟨_, rfl⟩
  rw [hZr] at hz32 hzs32
  have HZ32 := Lib.hid hz32
  have z6 := Lib.hid (heap_new w (.cells Zr 25) w.heap.size rfl)
  have b6 := Lib.hid (below_alloc1 w (.cells Zr 25))
  have hk6 := hk.alloc (.cells Zr 25)
  obtain ⟨W1, hW1⟩ : ∃ W, w.alloc (.cells Zr 25) = W := ⟨_, rfl⟩
  rw [hW1] at z6 b6 hk6
  have HW1 := Lib.hid hW1
  have BY := Lib.hid (bytes_any x 8 64 1 W1 (Or.inr (Or.inr (Or.inr ⟨rfl, rfl⟩))) (Or.inl rfl))
  have hwl := length_wordBytes x 8 1
  obtain ⟨wb, hwb⟩ : ∃ l, wordBytes x 8 1 = l := ⟨_, rfl⟩
  rw [hwb] at BY hwl
  have hpb : [strB s, [0#8], wb].flatten = purB s x := by rw [← hwb]; simp [purB]
  have hml := macL_len k (purB s x)
  obtain ⟨Z, hZ2⟩ : ∃ Z, macL k (purB s x) = Z := ⟨_, rfl⟩
  rw [hZ2] at hml ⊢
  have HZ2 := Lib.hid hZ2
  have HSZ := Lib.hid (show (Try.prog.info? 25).map (·.size) = some (V8 Z).size by rw [V8_size, hml]; kernel_rfl)
  have HZZ := Lib.hid (show Zr.size = (V8 Z).size by rw [V8_size, hml, hzs32])
  have HK6 := Lib.hid hk6
  have HWL := Lib.hid hwl
  have HKL := Lib.hid hkl
  have HPB := Lib.hid hpb
  clear hpb hz32 hzs32 hZr hW1 hk6 hk hkl hml hZ2 hwb hwl
  go_enter Try.func48, Try.ntmps48
  go_upto_region 1 with (fail)
  rw [← HZ32.out, HW1.out]
  clear HW1
  go_wp2_with fail
  refine BY.out.mono ?_
  rintro e w3 ⟨rfl, hw3⟩
  have hE3 : EqN w3 wb (.slice (some ⟨W1.heap.size, 0, none⟩) 8 8) := by rw [← hw3]; exact EqN.new W1 wb _ 5 _ _ rfl 8 8 HWL.out.symm (Nat.le_refl _) (by rw [HWL.out]; decide) rfl
  have b3 : Below W1.heap.size W1 w3 := by rw [← hw3]; exact below_alloc1 _ _
  have hcs := conv_str w3 s
  have hS4 := str_eqn w3 s (by omega)
  have b4 := str_below w3 s
  obtain ⟨W4, hW4⟩ : ∃ W, strW w3 s = W := ⟨_, rfl⟩
  obtain ⟨cap, hcap⟩ : ∃ c, grownCap w3 s.size 0 5 = c := ⟨_, rfl⟩
  rw [hW4, hcap] at hcs
  rw [hW4, hcap] at hS4
  rw [hW4] at b4
  have hW5 : EqN (W4.alloc (.cells #[.int .u8 0] 5)) [0#8] (.slice (some ⟨W4.heap.size, 0, none⟩) 1 1) := EqN.new W4 [0#8] _ 5 _ _ rfl 1 1 rfl (Nat.le_refl _) (by decide) rfl
  have hr := RdN.new3 (W4.alloc (.cells #[.int .u8 0] 5)) (strB s) [0#8] wb _ _ _ 35 (0, 0) (W4.heap.size + 1) (by simp) (hS4.alloc _) hW5 ((hE3.below b4).alloc _)
  have hkk : EqN ((W4.alloc (.cells #[.int .u8 0] 5)).alloc (.cells #[.slice (some ⟨w3.heap.size, 0, none⟩) s.size cap, .slice (some ⟨W4.heap.size, 0, none⟩) 1 1, .slice (some ⟨W1.heap.size, 0, none⟩) 8 8] 35)) k kv := (((HK6.out.below b3).below b4).alloc _).alloc _
  have SM := Lib.hid (msum_any k kv [strB s, [0#8], wb] ⟨W4.heap.size + 1, 0, none⟩ 3 _ hkk HKL.out hr (by simp) (by simp) (by simp [strB_len, HWL.out]; omega))
  rw [HPB.out, HZ2.out] at SM
  have B4 := Lib.hid (b6.out.trans ((b3.trans (b4.mono b3.size)).mono b6.out.size))
  have Z4 := Lib.hid (keepH (b3.trans (b4.mono b3.size)) z6.out)
  clear hE3 b3 hS4 b4 hW4 hcap hW5 hr hkk hw3 BY z6 b6 HK6
  go_wp2_with fail
  refine SM.out.mono ?_
  rintro e w7 ⟨rfl, hb7⟩
  have hbb : Below W4.heap.size W4 w7 := (((Below.refl W4.heap.size W4).alloc (Nat.le_refl _) _).alloc (by rw [size_alloc]; omega) _).trans (hb7.mono (by rw [size_alloc, size_alloc]; omega))
  have Z7 := Lib.hid (keepH hbb Z4.out)
  have B7 := Lib.hid (B4.out.trans (hbb.mono B4.out.size))
  clear Z4 B4 hb7 hbb SM
  go_wp2_with (first | ((with_reducible show wpList _ _ _ (⟨none, .store 25 (.tmp 6) (.tmp 20), _, _, _, _⟩ :: _) _ _); refine wpList_store_row rfl 25 (.tmp 6) (.tmp 20) rfl w.heap.size (V8 Z) rfl rfl 25 _ Z7.out HSZ.out HZZ.out (V8_one _) ?_) | fail)
  have gz := setRow_heap w7 w.heap.size _ (V8 Z) _ _ Z7.out
  have hrv := run_loadVar_row (P := Try.prog) (w7.setRow w.heap.size (V8 Z)) w.heap.size 25 25 (V8 Z) (0, 0) _ gz Try.underlying25 rfl HSZ.out
  exact bodyPost_ret (v := .agg (V8 Z)) (by simp [results, Try.results48, asAddr, hrv, Act.put]) rfl ⟨rfl, below_setRow _ _ B7.out (Nat.le_refl _)⟩
end Go.Proofs.Ytjaakhjfpigdfaa
