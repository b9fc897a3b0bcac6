import Derived.Test.YtecaiaobbjddeaaA
import Derived.Test.YtecaiaobbjddeaaPureWordZigzags
/-! cut, alive, and a number's varint. -/
namespace Go.Proofs.Ytecaiaobbjddeaa
open Go.RowKit
set_option linter.unusedVariables false
set_option linter.unusedSimpArgs false

theorem cut_any (l : List (BitVec 8)) (A : Option Addr) (c : Nat) (w : World) (hl : l.length ≤ c) (hm : l.length ≤ 9223372036854775807) :
    Calls Try.prog 16 #[.slice A l.length c] w fun e w' => e = .returned (.slice A (l.take 400).length c) ∧ w = w' := by
  by_cases hlt : 400 < l.length
  · have e : (l.take 400).length = 400 := by rw [List.length_take]; omega
    rw [e]
    go_enter Try.func16, Try.ntmps16
    go_wp2
    go_ret
    exact ⟨rfl, rfl⟩
  · have e : (l.take 400).length = l.length := by rw [List.length_take]; omega
    rw [e]
    go_enter Try.func16, Try.ntmps16
    go_wp2
    go_ret
    exact ⟨rfl, rfl⟩
theorem alive_any (w : World) : Calls Try.prog 11 #[] w fun e w' => e = .returned (.bool true) ∧ Below w.heap.size w w' := PWordZigzags.salternlaw01_alive.calls 5 true w Pure.zAlive

/-- A number's varint, of at most f bytes. -/
def vlist : Nat → Nat → List (BitVec 8)
  | 0, _ => []
  | f + 1, x => if x < 128 then [BitVec.ofNat 8 x] else BitVec.ofNat 8 (x % 128 + 128) :: vlist f (x / 128)
theorem vlist_small (f x : Nat) (h : x < 128) : vlist (f + 1) x = [BitVec.ofNat 8 x] := by rw [vlist, if_pos h]
theorem vlist_big (f x : Nat) (h : ¬ x < 128) : vlist (f + 1) x = BitVec.ofNat 8 (x % 128 + 128) :: vlist f (x / 128) := by rw [vlist, if_neg h]
theorem or128 (x : Nat) : bits .or .u8 ((x : Int) % 256) 128 = ((BitVec.ofNat 8 (x % 128 + 128)).toNat : Int) := by
  have h := u8_or_nat (x % 256) 128 (by omega) (by decide)
  have e : x % 256 ||| 128 = x % 128 + 128 := by
    have all : ∀ n : Fin 256, n.val ||| 128 = n.val % 128 + 128 := by decide +kernel
    have := all ⟨x % 256, by omega⟩
    simp only at this
    rw [this]; omega
  rw [e] at h
  rw [BitVec.toNat_ofNat, show (x % 128 + 128) % 2 ^ 8 = x % 128 + 128 by omega, ← h]
  rfl
theorem low256 (x : Nat) (h : x < 128) : (x : Int) % 256 = ((BitVec.ofNat 8 x).toNat : Int) := by rw [BitVec.toNat_ofNat]; omega
theorem oneInt (n : Int) : ∀ u ∈ [Value.int .u8 n], u.oneCell' = true := by intro u hu; simp at hu; subst hu; rfl
theorem low255 (x : Nat) (h : x < 128) : (x : Int) = ((BitVec.ofNat 8 x).toNat : Int) := by rw [BitVec.toNat_ofNat]; omega
theorem info5 : (Try.prog.info? 5).map (fun i => (i.zero, i.size, i.bytes)) = some (some (.int .u8 0), 1, 1) := by kernel_rfl
theorem bytesV_snoc (p : List (BitVec 8)) (c : BitVec 8) : bytesV p ++ [Value.int .u8 (c.toNat : Int)] = bytesV (p ++ [c]) := by simp [bytesV]
theorem vpow (f : Nat) : 128 ^ (f + 1) = 128 * 128 ^ f := by rw [Nat.pow_succ, Nat.mul_comm]

set_option maxRecDepth 100000 in
set_option maxHeartbeats 2000000 in
theorem varint_any (x : Nat) (hx : x < 18446744073709551616) (w : World) : Calls Try.prog 19 #[.int .u64 x] w fun e w' =>
    ∃ g cap, e = .returned (.slice (some ⟨g, 0, none⟩) (vlist 10 x).length cap) ∧ w'.ownsRow w.heap.size 5 1 (.slice (some ⟨g, 0, none⟩) (vlist 10 x).length cap) (vlist 10 x).length (bytesV (vlist 10 x)) ∧ Below w.heap.size w w' := by
  obtain ⟨i0, hi, hz0, hz1, hz2⟩ := info_parts info5
  go_enter Try.func19, Try.ntmps19
  go_wp2
  go_loopw [0, 3] (fun xv v wr => ∃ (f X : Nat) (p : List (BitVec 8)), 1 ≤ f ∧ X < 128 ^ f ∧ X < 18446744073709551616 ∧ p.length + f = 10 ∧ p ++ vlist f X = vlist 10 x ∧ xv = .int .u64 X ∧ wr.ownsRow w.heap.size 5 1 v p.length (bytesV p) ∧ Below w.heap.size w wr) (fun xv _ _ => (intOf xv).toNat)
  case atStart => exact ⟨10, x, [], by omega, by have : (128 : Nat) ^ 10 = 1180591620717411303424 := by decide
                                                 omega, hx, rfl, rfl, rfl, World.ownsRow_nil _ _ _ _, Below.refl _ _⟩
  case round =>
    obtain ⟨f, X, p, hf1, hXf, hX, hpf, hp, rfl, hown, hbel⟩ := hrel
    by_cases hlt : X < 128
    · obtain ⟨f', rfl⟩ : ∃ f', f = f' + 1 := ⟨f - 1, by omega⟩
      rw [vlist_small f' X hlt] at hp
      have hlow := low255 X hlt
      generalize BitVec.ofNat 8 X = c at hp hlow
      have Hlow := Lib.hid hlow
      clear hlow
      have Hp := Lib.hid hp
      have Hf := Lib.hid hpf
      have hp10 : p.length ≤ 10 := by omega
      clear hp hpf hXf
      go_wp2_with (first | (at_builtin; refine wpList_append_own _ rfl (.tmp 14) (.tmp 17) 33 rfl w.heap.size 5 i0 (.int .u8 0) 1 1 Try.underlying33 hi hz0 hz1 hz2 rfl (by decide) _ _ _ rfl (hown.alloc _) ⟨wr.heap.size, 0, none⟩ 1 1 [.int .u8 (X : Int)] rfl rfl (cell_one_new _ _ _) (oneInt _) (by unfold maxLen; omega) (by omega) (append_base hbel (Nat.le_refl _) _) ?_; intro v' w2 hown' hgrow _) | fail)
      have hb2 : Below w.heap.size w w2 := (hbel.alloc hbel.size _).grown hgrow (by have := hbel.size; simp; omega) (own_base' hown)
      clear hgrow
      rw [Hlow.out, bytesV_snoc, Hp.out, show p.length + 1 = (vlist 10 x).length by rw [← Hp.out]; simp] at hown'
      have hl10 : 1 ≤ (vlist 10 x).length := by rw [← Hp.out]; simp
      obtain ⟨g, cap, hv⟩ := Joins.ownsRow_form hown' (by omega)
      rw [hv] at hown' ⊢
      clear hv
      go_wp2
      go_ret
      exact ⟨g, cap, rfl, hown', hb2⟩
    · have hf2 : 2 ≤ f := by
        rcases Nat.lt_or_ge f 2 with h | h
        · obtain rfl : f = 1 := by omega
          simp at hXf; omega
        · exact h
      obtain ⟨f', rfl⟩ : ∃ f', f = f' + 1 := ⟨f - 1, by omega⟩
      rw [vlist_big f' X hlt] at hp
      have hor := or128 X
      generalize BitVec.ofNat 8 (X % 128 + 128) = c at hp hor
      have Hp := Lib.hid hp
      have Hf := Lib.hid hpf
      have hp10 : p.length ≤ 10 := by omega
      have Hx := Lib.hid hXf
      clear hp hpf hXf
      go_wp2_with (first | (at_builtin; go_loud (refine wpList_append_own _ rfl (.tmp 6) (.tmp 10) 33 rfl w.heap.size 5 i0 (.int .u8 0) 1 1 Try.underlying33 hi hz0 hz1 hz2 rfl (by decide) _ _ _ rfl (hown.alloc _) ⟨wr.heap.size, 0, none⟩ 1 1 [.int .u8 (c.toNat : Int)] rfl rfl (cell_one_new _ _ _) (oneInt _) (by unfold maxLen; omega) (by omega) (append_base hbel (Nat.le_refl _) _) ?_; intro v' w2 hown' hgrow _)) | fail)
      have hb2 : Below w.heap.size w w2 := (hbel.alloc hbel.size _).grown hgrow (by have := hbel.size; simp; omega) (own_base' hown)
      clear hgrow
      rw [bytesV_snoc] at hown'
      go_roundw
      case rel => exact ⟨f', X / 128, p ++ [c], by omega, by have := Hx.out; rw [vpow] at this; omega, by omega, by have := Hf.out; simp; omega, by rw [← Hp.out]; simp, by congr 1, by simpa using hown', hb2⟩
      case measure => simp [intOf]; omega
set_option maxRecDepth 100000 in
set_option maxHeartbeats 2000000 in
theorem rvarint_any (x : Nat) (hx : x < 18446744073709551616) (w : World) : Calls Try.prog 20 #[.int .u64 x] w fun e w' =>
    ∃ g cap, e = .returned (.slice (some ⟨g, 0, none⟩) (vlist 10 x).length cap) ∧ w'.ownsRow w.heap.size 5 1 (.slice (some ⟨g, 0, none⟩) (vlist 10 x).length cap) (vlist 10 x).length (bytesV (vlist 10 x)) ∧ Below w.heap.size w w' := by
  obtain ⟨i0, hi, hz0, hz1, hz2⟩ := info_parts info5
  go_enter Try.func20, Try.ntmps20
  go_wp2
  go_loopw [0, 3] (fun xv v wr => ∃ (f X : Nat) (p : List (BitVec 8)), 1 ≤ f ∧ X < 128 ^ f ∧ X < 18446744073709551616 ∧ p.length + f = 10 ∧ p ++ vlist f X = vlist 10 x ∧ xv = .int .u64 X ∧ wr.ownsRow w.heap.size 5 1 v p.length (bytesV p) ∧ Below w.heap.size w wr) (fun xv _ _ => (intOf xv).toNat)
  case atStart => exact ⟨10, x, [], by omega, by have : (128 : Nat) ^ 10 = 1180591620717411303424 := by decide
                                                 omega, hx, rfl, rfl, rfl, World.ownsRow_nil _ _ _ _, Below.refl _ _⟩
  case round =>
    obtain ⟨f, X, p, hf1, hXf, hX, hpf, hp, rfl, hown, hbel⟩ := hrel
    by_cases hlt : X < 128
    · obtain ⟨f', rfl⟩ : ∃ f', f = f' + 1 := ⟨f - 1, by omega⟩
      rw [vlist_small f' X hlt] at hp
      have hlow := low255 X hlt
      generalize BitVec.ofNat 8 X = c at hp hlow
      have Hlow := Lib.hid hlow
      clear hlow
      have Hp := Lib.hid hp
      have Hf := Lib.hid hpf
      have hp10 : p.length ≤ 10 := by omega
      clear hp hpf hXf
      go_wp2_with (first | (at_builtin; refine wpList_append_own _ rfl (.tmp 15) (.tmp 18) 33 rfl w.heap.size 5 i0 (.int .u8 0) 1 1 Try.underlying33 hi hz0 hz1 hz2 rfl (by decide) _ _ _ rfl (hown.alloc _) ⟨wr.heap.size, 0, none⟩ 1 1 [.int .u8 (X : Int)] rfl rfl (cell_one_new _ _ _) (oneInt _) (by unfold maxLen; omega) (by omega) (append_base hbel (Nat.le_refl _) _) ?_; intro v' w2 hown' hgrow _) | fail)
      have hb2 : Below w.heap.size w w2 := (hbel.alloc hbel.size _).grown hgrow (by have := hbel.size; simp; omega) (own_base' hown)
      clear hgrow
      rw [Hlow.out, bytesV_snoc, Hp.out, show p.length + 1 = (vlist 10 x).length by rw [← Hp.out]; simp] at hown'
      have hl10 : 1 ≤ (vlist 10 x).length := by rw [← Hp.out]; simp
      obtain ⟨g, cap, hv⟩ := Joins.ownsRow_form hown' (by omega)
      rw [hv] at hown' ⊢
      clear hv
      go_wp2
      go_ret
      exact ⟨g, cap, rfl, hown', hb2⟩
    · have hf2 : 2 ≤ f := by
        rcases Nat.lt_or_ge f 2 with h | h
        · obtain rfl : f = 1 := by omega
          simp at hXf; omega
        · exact h
      obtain ⟨f', rfl⟩ : ∃ f', f = f' + 1 := ⟨f - 1, by omega⟩
      rw [vlist_big f' X hlt] at hp
      have hor : ((X % 128 : Nat) : Int) + 128 = ((BitVec.ofNat 8 (X % 128 + 128)).toNat : Int) := by rw [BitVec.toNat_ofNat]; omega
      generalize BitVec.ofNat 8 (X % 128 + 128) = c at hp hor
      have hrem : (X : Int).tmod 128 = ((X % 128 : Nat) : Int) := by rw [Int.tmod_eq_emod_of_nonneg (by omega)]; omega
      obtain ⟨m, hm⟩ : ∃ m : Nat, X % 128 = m := ⟨_, rfl⟩
      have hm128 : m < 128 := by omega
      rw [hm] at hor hrem
      have Hor := Lib.hid hor
      have Hm := Lib.hid hm
      clear hor hm
      have Hp := Lib.hid hp
      have Hf := Lib.hid hpf
      have hp10 : p.length ≤ 10 := by omega
      have Hx := Lib.hid hXf
      clear hp hpf hXf
      go_wp2_with (first | (at_builtin; go_loud (refine wpList_append_own _ rfl (.tmp 6) (.tmp 11) 33 rfl w.heap.size 5 i0 (.int .u8 0) 1 1 Try.underlying33 hi hz0 hz1 hz2 rfl (by decide) _ _ _ rfl (hown.alloc _) ⟨wr.heap.size, 0, none⟩ 1 1 [.int .u8 ((m : Int) + 128)] rfl rfl (cell_one_new _ _ _) (oneInt _) (by unfold maxLen; omega) (by omega) (append_base hbel (Nat.le_refl _) _) ?_; intro v' w2 hown' hgrow _)) | fail)
      have hb2 : Below w.heap.size w w2 := (hbel.alloc hbel.size _).grown hgrow (by have := hbel.size; simp; omega) (own_base' hown)
      clear hgrow
      rw [Hor.out, bytesV_snoc] at hown'
      go_roundw
      case rel => exact ⟨f', X / 128, p ++ [c], by omega, by have := Hx.out; rw [vpow] at this; omega, by omega, by have := Hf.out; simp; omega, by rw [← Hp.out]; simp, by congr 1, by simpa using hown', hb2⟩
      case measure => simp [intOf]; omega
end Go.Proofs.Ytecaiaobbjddeaa
