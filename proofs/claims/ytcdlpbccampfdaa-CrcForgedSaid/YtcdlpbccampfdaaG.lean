import Derived.Test.YtcdlpbccampfdaaF
import Derived.Test.YtcdlpbccampfdaaB
/-! crc.Forge and the reference's: four bytes by value. -/
namespace Go.Proofs.Ytcdlpbccampfdaa
open Go.RowKit
open M
set_option linter.unusedVariables false
set_option linter.unusedSimpArgs false

/-- Four bytes as an array's value. -/
def arr4 (x : BitVec 32) : Value := .agg #[.int .u8 (M.byteOf x 0).toNat, .int .u8 (M.byteOf x 1).toNat, .int .u8 (M.byteOf x 2).toNat, .int .u8 (M.byteOf x 3).toNat]

theorem setRow_new (W : World) (c a : Array Value) (t : TypeId) (m : Nat × Nat) (g : Nat) (hg : g = W.heap.size) : (W.alloc (.cells c t m)).setRow g a = W.alloc (.cells a t m) := by
  subst hg
  unfold World.setRow World.alloc
  congr 1
  apply Array.ext
  · simp
  · intro i h1 h2
    simp only [Array.getElem_modify, Array.getElem_push]
    by_cases h : W.heap.size = i
    · subst h; simp
    · have : i < W.heap.size := by simp at h1; omega
      simp [h, this]
theorem setRow_old (W : World) (o : Obj) (a : Array Value) (g : Nat) (hg : g < W.heap.size) : (W.alloc o).setRow g a = (W.setRow g a).alloc o := by
  unfold World.setRow World.alloc
  congr 1
  apply Array.ext
  · simp
  · intro i h1 h2
    simp only [Array.getElem_modify, Array.getElem_push, Array.size_modify]
    by_cases h : g = i
    · subst h; simp [hg]
    · by_cases hi : i < W.heap.size <;> simp [h, hi]
theorem heap_new (W : World) (o : Obj) (g : Nat) (hg : g = W.heap.size) : (W.alloc o).heap[g]? = some o := by
  subst hg
  show (W.heap.push o)[W.heap.size]? = _
  simp
theorem heap_old {W : World} (o : Obj) {g : Nat} {o' : Obj} (_h : True) (h : W.heap[g]? = some o') : (W.alloc o).heap[g]? = some o' := by
  have hlt : g < W.heap.size := (Array.getElem?_eq_some_iff.1 h).1
  show (W.heap.push o)[g]? = _
  rw [Array.getElem?_push_lt hlt]
  rw [← h, Array.getElem?_eq_getElem hlt]
theorem add_zero_off (b j : Nat) : (⟨b, 0, none⟩ : Addr).add j = ⟨b, j, none⟩ := by unfold Addr.add; split <;> simp_all
theorem size5 : (Try.prog.info? 5).map (·.size) = some 1 := by kernel_rfl
theorem forge_word (s want S : BitVec 32) (hS : S = ~~~ want) : IntKind.u64.wrap (bits .xor .u32 ((backN 32 S).toNat : Int) (bits .xor .u32 IntKind.u32.max (s.toNat : Int))) = (((forge s want).setWidth 64).toNat : Int) := by
  rw [not32, xor32]
  have e : backN 32 S ^^^ ~~~ s = forge s want := by rw [hS]; rfl
  rw [e, BitVec.toNat_setWidth]
  have := (forge s want).isLt
  rw [IntWalk.u64_in _ ⟨by omega, by omega⟩]
  omega
theorem byte4 (x : BitVec 32) (j : Nat) (hj : j < 4) : byteAt (x.setWidth 64) j = M.byteOf x j := by
  unfold byteAt M.byteOf
  ext i hi
  simp only [BitVec.getElem_setWidth, BitVec.getLsbD_ushiftRight, BitVec.getLsbD_setWidth]
  simp [show 8 * j + i < 64 by omega]
theorem bytes4 (x : BitVec 32) : ((wordBytes (x.setWidth 64) 4 2).map fun b => Value.int .u8 (b.toNat : Int)).toArray = #[.int .u8 (M.byteOf x 0).toNat, .int .u8 (M.byteOf x 1).toNat, .int .u8 (M.byteOf x 2).toNat, .int .u8 (M.byteOf x 3).toNat] := by
  have e : wordBytes (x.setWidth 64) 4 2 = [byteAt (x.setWidth 64) 0, byteAt (x.setWidth 64) 1, byteAt (x.setWidth 64) 2, byteAt (x.setWidth 64) 3] := rfl
  rw [e, byte4 x 0 (by omega), byte4 x 1 (by omega), byte4 x 2 (by omega), byte4 x 3 (by omega)]
  rfl
theorem forge_any (s want : BitVec 32) (w : World) :
    Calls Try.prog 20 #[.int .u32 s.toNat, .int .u32 want.toNat] w fun e w' => e = .returned (arr4 (forge s want)) ∧ Below w.heap.size w w' := by
  go_enter Try.func20, Try.ntmps20
  go_wp2
  rw [not32]
  obtain ⟨S, hS⟩ : ∃ S, S = ~~~ want := ⟨_, rfl⟩
  rw [← hS]
  have HS := Lib.hid hS
  clear hS
  go_loop [5, 11] (fun r i => ∃ k : Nat, k ≤ 4 ∧ i = .int .i64 k ∧ r = .int .u32 (backN (8 * k) S).toNat) (fun _ i => 4 - (intOf i).toNat)
  case atStart => exact ⟨0, Nat.zero_le _, rfl, rfl⟩
  case round =>
    obtain ⟨k, hk, rfl, rfl⟩ := hrel
    by_cases hlt : k < 4
    · go_wp2_with (go_at_call 26; refine (out_any _ _).mono ?_; rintro e w' ⟨rfl, rfl⟩)
      go_round
      case rel => exact ⟨k + 1, by omega, by go_num, by rw [← backN_add, show 8 + 8 * k = 8 * (k + 1) by omega]⟩
      case measure => simp [intOf]; omega
    · go_wp2_with fail
      obtain rfl : k = 4 := by omega
      rw [forge_word s want S HS.out]
      refine (bytes_any _ 4 32 2 _ (by omega) (by omega)).mono ?_
      rintro e w' ⟨rfl, rfl⟩
      rw [bytes4]
      have E : Hid (arr4 (forge s want) = .agg #[.int .u8 (M.byteOf (forge s want) 0).toNat, .int .u8 (M.byteOf (forge s want) 1).toNat, .int .u8 (M.byteOf (forge s want) 2).toNat, .int .u8 (M.byteOf (forge s want) 3).toNat]) := rfl
      generalize (M.byteOf (forge s want) 0).toNat = b0 at *
      generalize (M.byteOf (forge s want) 1).toNat = b1 at *
      generalize (M.byteOf (forge s want) 2).toNat = b2 at *
      generalize (M.byteOf (forge s want) 3).toNat = b3 at *
      have hcp := run_copy_row (P := Try.prog) ((((w.alloc (.cells #[.int .u8 0, .int .u8 0, .int .u8 0, .int .u8 0] 35)).alloc (.cells #[.int .u8 0, .int .u8 0, .int .u8 0, .int .u8 0] 35)).alloc (.cells #[.int .u8 b0, .int .u8 b1, .int .u8 b2, .int .u8 b3] 5))) 23 23 3 5 (w.heap.size + 1) 0 4 4 ⟨w.heap.size + 1 + 1, 0, none⟩ 4 4
        #[.int .u8 0, .int .u8 0, .int .u8 0, .int .u8 0] 35 [.int .u8 b0, .int .u8 b1, .int .u8 b2, .int .u8 b3] Try.underlying23 size5 ?h1 rfl ?h2 (by simp) ?h3
      case h1 => exact heap_old _ trivial (heap_new _ _ _ (by simp)) 
      case h2 =>
        intro j v hj
        rw [add_zero_off]
        have hn := cell_new ((w.alloc (.cells #[.int .u8 0, .int .u8 0, .int .u8 0, .int .u8 0] 35)).alloc (.cells #[.int .u8 0, .int .u8 0, .int .u8 0, .int .u8 0] 35)) #[.int .u8 b0, .int .u8 b1, .int .u8 b2, .int .u8 b3] 5 (0, 0) j v (by simpa using hj)
        simpa using hn
      case h3 => intro v hv; simp at hv; rcases hv with rfl | rfl | rfl | rfl <;> rfl
      rw [setRow_old _ _ _ _ (by simp), setRow_new _ _ _ _ _ _ (by simp)] at hcp
      go_wp2_with fail
      exact bodyPost_ret (v := arr4 (forge s want)) (by rw [E.out]; simp [results, Try.results20, go_sem]) rfl ⟨rfl, ((((Below.refl _ _).alloc (Nat.le_refl _) _).alloc (by simp) _).alloc (by simp; omega) _)⟩

theorem byteOf_div (x : BitVec 32) (j : Nat) (d : Int) (hd : d = ((2 ^ (8 * j) : Nat) : Int)) : (x.toNat : Int) / d % (256 : Int) = ((M.byteOf x j).toNat : Int) := by
  subst hd
  unfold M.byteOf
  rw [BitVec.toNat_setWidth, BitVec.toNat_ushiftRight, Nat.shiftRight_eq_div_pow]
  simp
theorem byteOf_low (x : BitVec 32) : (x.toNat : Int) % (256 : Int) = ((M.byteOf x 0).toNat : Int) := by
  unfold M.byteOf; simp
theorem arr4_div (x : BitVec 32) : arr4 x = .agg #[.int .u8 ((x.toNat : Int) % 256), .int .u8 ((x.toNat : Int) / 256 % 256), .int .u8 ((x.toNat : Int) / 65536 % 256), .int .u8 ((x.toNat : Int) / 16777216)] := by
  have h3 : (x.toNat : Int) / (16777216 : Int) = ((M.byteOf x 3).toNat : Int) := by
    rw [← byteOf_div x 3 16777216 rfl]
    have := x.isLt
    omega
  rw [byteOf_low, byteOf_div x 1 256 rfl, byteOf_div x 2 65536 rfl, h3]
  rfl
theorem rforge_any (s want : BitVec 32) (w : World) :
    Calls Try.prog 22 #[.int .u32 s.toNat, .int .u32 want.toNat] w fun e w' => e = .returned (arr4 (forge s want)) ∧ Below w.heap.size w w' := by
  have hmk : ∀ w : World, (Instr.makeSlice 23 (.int .i64 4) (.int .i64 4)).run Try.prog w = .ok (.slice (some ⟨w.heap.size, 0, none⟩) 4 4) (w.alloc (.cells #[.int .u8 0, .int .u8 0, .int .u8 0, .int .u8 0] 5)) := fun w => by
    have h := run_make_row' (P := Try.prog) 23 5 (.int .u8 0) 1 Try.underlying23 info5 rfl .i64 .i64 4 (by omega) (by omega) w
    have e : madeCells #[Value.int .u8 0] 4 = #[.int .u8 0, .int .u8 0, .int .u8 0, .int .u8 0] := by
      apply Array.ext'; rw [toList_madeCells_one]; rfl
    rw [e] at h
    exact h
  go_enter Try.func22, Try.ntmps22
  go_wp2_with fail
  refine (rback_any want [0#8, 0#8, 0#8, 0#8] _ _ _ (RdB.newAt _ _ _ _ _ _ (by simp [size_alloc]) (by simp) rfl)).mono ?_
  rintro e w' ⟨rfl, rfl⟩
  have E : Hid (bits .xor .u32 ((unadd want [0#8, 0#8, 0#8, 0#8]).toNat : Int) (s.toNat : Int) = ((forge s want).toNat : Int)) := by
    show _ = _
    rw [xor32, forge_ref]
  generalize unadd want [0#8, 0#8, 0#8, 0#8] = U at *
  have hX := E.out
  obtain ⟨X, hF⟩ : ∃ X, forge s want = X := ⟨_, rfl⟩
  rw [hF] at hX
  have HF := Lib.hid hF
  clear E hF
  go_wp2
  exact bodyPost_ret (v := arr4 (forge s want)) (by rw [HF.out, arr4_div]; simp [results, Try.results22, go_sem]) rfl ⟨rfl, (((Below.refl _ _).alloc (Nat.le_refl _) _).alloc (by simp) _)⟩
end Go.Proofs.Ytcdlpbccampfdaa
