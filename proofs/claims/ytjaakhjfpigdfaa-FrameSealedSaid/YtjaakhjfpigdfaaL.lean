import Derived.Test.YtjaakhjfpigdfaaJ
/-! The document's Step. -/
namespace Go.Proofs.Ytjaakhjfpigdfaa
open Go.RowKit
set_option linter.unusedVariables false
set_option linter.unusedSimpArgs false
theorem wd_four (l : By) (k : Nat) : (wd l k).toNat = (l.getD (4 * k) 0).toNat * 16777216 + (l.getD (4 * k + 1) 0).toNat * 65536 + (l.getD (4 * k + 2) 0).toNat * 256 + (l.getD (4 * k + 3) 0).toNat := by
  have h := wd_nat l k
  have h2 : (wd l k).toNat = numOf (l.drop (k * 4)) 4 1 := by omega
  rw [h2, show k * 4 = 4 * k by omega]
  have e0 : which 4 1 0 = 3 := rfl
  have e1 : which 4 1 1 = 2 := rfl
  have e2 : which 4 1 2 = 1 := rfl
  have e3 : which 4 1 3 = 0 := rfl
  have g : ∀ j, (l.drop (4 * k)).getD j 0 = l.getD (4 * k + j) 0 := fun j => by simp [List.getD_eq_getElem?_getD]
  simp only [numOf, assemble, e0, e1, e2, e3, g]
  simp
  omega
/-- What holds while the numbers of the block are laid. -/
structure RT (w : World) (s : List W32) (l : By) (F : List W32) (wr : World) : Prop where
  d0 : wr.heap[w.heap.size]? = some (.cells (U s) 31)
  d1 : wr.heap[w.heap.size + 1]? = some (.cells (V8 l) 32)
  d2 : wr.heap[w.heap.size + 1 + 1]? = some (.cells (U (List.replicate 8 0)) 31)
  d3 : wr.heap[w.heap.size + 1 + 1 + 1]? = some (.cells (U F) 99)
  bel : Below w.heap.size w wr
theorem RT.setAt {w : World} {s : List W32} {l : By} {F : List W32} {wr : World} (h : RT w s l F wr) (i : Nat) (x : W32) : RT w s l (F.set i x) (wr.setCell ⟨w.heap.size + 1 + 1 + 1, i, none⟩ (.int .u32 (x.toNat : Int))) :=
  ⟨heap_set_other h.d0 (by omega), heap_set_other h.d1 (by omega), heap_set_other h.d2 (by omega), by rw [← U_set]; exact heap_setCell h.d3 i _, h.bel.setCell (by simp; omega) _⟩
theorem RT.drewN {w : World} {s : List W32} {l : By} {F : List W32} {wr : World} (h : RT w s l F wr) (n : Nat) : RT w s l F (wr.drewN n) :=
  ⟨h.d0, h.d1, h.d2, h.d3, ⟨h.bel.os, h.bel.tape, h.bel.output, h.bel.size, h.bel.block⟩⟩
theorem RT.drew {w : World} {s : List W32} {l : By} {F : List W32} {wr : World} (h : RT w s l F wr) : RT w s l F wr.drew :=
  ⟨h.d0, h.d1, h.d2, h.d3, h.bel.drew⟩
theorem RT.byte {w : World} {s : List W32} {l : By} {F : List W32} {wr : World} (h : RT w s l F wr) (i : Nat) (hi : i < l.length) : wr.cell? ⟨w.heap.size + 1, i, none⟩ = some (.int .u8 ((l.getD i 0).toNat : Int)) := by
  rw [Joins.cell_of_block h.d1]; exact V8_at l i hi
theorem RT.num {w : World} {s : List W32} {l : By} {F : List W32} {wr : World} (h : RT w s l F wr) (i : Nat) (hi : i < F.length) : wr.cell? ⟨w.heap.size + 1 + 1 + 1, i, none⟩ = some (.int .u32 ((F.getD i 0).toNat : Int)) := by
  rw [Joins.cell_of_block h.d3]; exact U_at F i hi
theorem l_mul (x : BitVec 8) (m : Nat) (M : Int) (hM : (m : Int) = M) (h : m ≤ 16777216) : ∃ y : W32, IntKind.u32.wrap ((x.toNat : Int) * M) = (y.toNat : Int) ∧ y.toNat = x.toNat * m := by
  subst hM
  have hx := x.isLt
  have hm : x.toNat * m < 2 ^ 32 := by
    have : x.toNat * m ≤ 255 * 16777216 := Nat.mul_le_mul (by omega) h
    omega
  refine ⟨BitVec.ofNat 32 (x.toNat * m), ?_, ?_⟩
  · rw [IntKind.wrap_u32, BitVec.toNat_ofNat, Nat.mod_eq_of_lt hm]
    have : ((x.toNat : Int) * (m : Int)) = ((x.toNat * m : Nat) : Int) := by push_cast; rfl
    omega
  · rw [BitVec.toNat_ofNat, Nat.mod_eq_of_lt hm]
theorem RT.below {w : World} {s : List W32} {l : By} {F : List W32} {wr wr' : World} (h : RT w s l F wr) (hb : Below wr.heap.size wr wr') : RT w s l F wr' :=
  ⟨keepH hb h.d0, keepH hb h.d1, keepH hb h.d2, keepH hb h.d3, h.bel.trans (hb.mono h.bel.size)⟩
theorem wrap8 (x : BitVec 8) : IntKind.u32.wrap (x.toNat : Int) = (x.toNat : Int) := by
  have := x.isLt
  rw [IntKind.wrap_u32]; omega
theorem rr_7 (x : W32) (w : World) : Calls Try.prog 77 #[.int .u32 x.toNat, .int .i64 7] w fun e w' => e = .returned (.int .u32 (rot x 7).toNat) ∧ w = w' := rright_any x 7 (by omega) w
theorem rr_18 (x : W32) (w : World) : Calls Try.prog 77 #[.int .u32 x.toNat, .int .i64 18] w fun e w' => e = .returned (.int .u32 (rot x 18).toNat) ∧ w = w' := rright_any x 18 (by omega) w
theorem rr_17 (x : W32) (w : World) : Calls Try.prog 77 #[.int .u32 x.toNat, .int .i64 17] w fun e w' => e = .returned (.int .u32 (rot x 17).toNat) ∧ w = w' := rright_any x 17 (by omega) w
theorem rr_19 (x : W32) (w : World) : Calls Try.prog 77 #[.int .u32 x.toNat, .int .i64 19] w fun e w' => e = .returned (.int .u32 (rot x 19).toNat) ∧ w = w' := rright_any x 19 (by omega) w
theorem rr_6 (x : W32) (w : World) : Calls Try.prog 77 #[.int .u32 x.toNat, .int .i64 6] w fun e w' => e = .returned (.int .u32 (rot x 6).toNat) ∧ w = w' := rright_any x 6 (by omega) w
theorem rr_11 (x : W32) (w : World) : Calls Try.prog 77 #[.int .u32 x.toNat, .int .i64 11] w fun e w' => e = .returned (.int .u32 (rot x 11).toNat) ∧ w = w' := rright_any x 11 (by omega) w
theorem rr_25 (x : W32) (w : World) : Calls Try.prog 77 #[.int .u32 x.toNat, .int .i64 25] w fun e w' => e = .returned (.int .u32 (rot x 25).toNat) ∧ w = w' := rright_any x 25 (by omega) w
theorem rr_2 (x : W32) (w : World) : Calls Try.prog 77 #[.int .u32 x.toNat, .int .i64 2] w fun e w' => e = .returned (.int .u32 (rot x 2).toNat) ∧ w = w' := rright_any x 2 (by omega) w
theorem rr_13 (x : W32) (w : World) : Calls Try.prog 77 #[.int .u32 x.toNat, .int .i64 13] w fun e w' => e = .returned (.int .u32 (rot x 13).toNat) ∧ w = w' := rright_any x 13 (by omega) w
theorem rr_22 (x : W32) (w : World) : Calls Try.prog 77 #[.int .u32 x.toNat, .int .i64 22] w fun e w' => e = .returned (.int .u32 (rot x 22).toNat) ∧ w = w' := rright_any x 22 (by omega) w
theorem rm_3 (x : W32) (w : World) : Calls Try.prog 78 #[.int .u32 x.toNat, .int .i64 3] w fun e w' => e = .returned (.int .u32 (shf x 3).toNat) ∧ w = w' := rmoved_any x 3 (by omega) w
theorem rm_10 (x : W32) (w : World) : Calls Try.prog 78 #[.int .u32 x.toNat, .int .i64 10] w fun e w' => e = .returned (.int .u32 (shf x 10).toNat) ∧ w = w' := rmoved_any x 10 (by omega) w
theorem rq_6 (x : W32) (w : World) : Calls Try.prog 77 #[.int .u32 x.toNat, .int .i64 6] w fun e w' => e = .returned (.int .u32 (rot x 6).toNat) ∧ w' = w := (rr_6 x w).mono fun _ _ h => ⟨h.1, h.2.symm⟩
theorem rq_11 (x : W32) (w : World) : Calls Try.prog 77 #[.int .u32 x.toNat, .int .i64 11] w fun e w' => e = .returned (.int .u32 (rot x 11).toNat) ∧ w' = w := (rr_11 x w).mono fun _ _ h => ⟨h.1, h.2.symm⟩
theorem rq_25 (x : W32) (w : World) : Calls Try.prog 77 #[.int .u32 x.toNat, .int .i64 25] w fun e w' => e = .returned (.int .u32 (rot x 25).toNat) ∧ w' = w := (rr_25 x w).mono fun _ _ h => ⟨h.1, h.2.symm⟩
theorem rq_2 (x : W32) (w : World) : Calls Try.prog 77 #[.int .u32 x.toNat, .int .i64 2] w fun e w' => e = .returned (.int .u32 (rot x 2).toNat) ∧ w' = w := (rr_2 x w).mono fun _ _ h => ⟨h.1, h.2.symm⟩
theorem rq_13 (x : W32) (w : World) : Calls Try.prog 77 #[.int .u32 x.toNat, .int .i64 13] w fun e w' => e = .returned (.int .u32 (rot x 13).toNat) ∧ w' = w := (rr_13 x w).mono fun _ _ h => ⟨h.1, h.2.symm⟩
theorem rq_22 (x : W32) (w : World) : Calls Try.prog 77 #[.int .u32 x.toNat, .int .i64 22] w fun e w' => e = .returned (.int .u32 (rot x 22).toNat) ∧ w' = w := (rr_22 x w).mono fun _ _ h => ⟨h.1, h.2.symm⟩
set_option maxRecDepth 100000 in
set_option maxHeartbeats 6000000 in
theorem rstep_any (s : List W32) (hs : s.length = 8) (l : By) (hl : l.length = 64) (w : World) : Calls Try.prog 29 #[.agg (U s), .agg (V8 l)] w fun e w' => e = .returned (.agg (U (stepL s l))) ∧ Below w.heap.size w w' := by
  have hS : (Try.prog.info? 31).map (·.size) = some (U s).size := by rw [U_size, hs]; kernel_rfl
  have hZ := Lib.hid zeros64
  go_enter Try.func29, Try.ntmps29
  go_wp2
  rw [← hZ.out]
  generalize hw0 : (World.alloc _ _) = w0
  have r0 : RT w s l (fillW l 0) w0 := by
    rw [← hw0]
    refine ⟨heap_old _ trivial (heap_old _ trivial (heap_old _ trivial (heap_new w _ _ rfl))), heap_old _ trivial (heap_old _ trivial (heap_new _ _ _ (by simp))), heap_old _ trivial (heap_new _ _ _ (by simp)), heap_new _ _ _ (by simp), ?_⟩
    exact ((((Below.refl _ _).alloc (Nat.le_refl _) _).alloc (by simp) _).alloc (by simp; omega) _).alloc (by simp; omega) _
  replace r0 := Lib.hid r0
  have HS := Lib.hid hS
  have HSL := Lib.hid hs
  have HLL := Lib.hid hl
  clear hw0 hS hs hl hZ
  go_loopg [6] 16 (fun gk iv wr => ∃ i : Nat, gk = 16 - i ∧ i ≤ 16 ∧ iv = .int .i64 (i : Int) ∧ RT w s l (fillW l i) wr)
  case atStart => exact ⟨0, rfl, by omega, rfl, r0.out⟩
  case round =>
    obtain ⟨i, rfl, hi, rfl, hst⟩ := hrel
    by_cases hlt : i < 16
    · have hl := HLL.out
      have hF := fillW_len l i
      have hw4 := wd_four l i
      have q0 := hst.byte (4 * i) (by omega)
      have q1 := hst.byte (4 * i + 1) (by omega)
      have q2 := hst.byte (4 * i + 2) (by omega)
      have q3 := hst.byte (4 * i + 3) (by omega)
      have qi := hst.num i (by omega)
      have f0 := fr_of hst.d3 i
      obtain ⟨x0, e0⟩ : ∃ x, l.getD (4 * i) 0 = x := ⟨_, rfl⟩
      obtain ⟨x1, e1⟩ : ∃ x, l.getD (4 * i + 1) 0 = x := ⟨_, rfl⟩
      obtain ⟨x2, e2⟩ : ∃ x, l.getD (4 * i + 2) 0 = x := ⟨_, rfl⟩
      obtain ⟨x3, e3⟩ : ∃ x, l.getD (4 * i + 3) 0 = x := ⟨_, rfl⟩
      rw [e0] at q0 hw4
      rw [e1] at q1 hw4
      rw [e2] at q2 hw4
      rw [e3] at q3 hw4
      obtain ⟨z0, p0, v0⟩ := l_mul x0 16777216 16777216 rfl (by omega)
      obtain ⟨z1, p1, v1⟩ := l_mul x1 65536 65536 rfl (by omega)
      obtain ⟨z2, p2, v2⟩ := l_mul x2 256 256 rfl (by omega)
      have w0' := wrap8 x0
      have w1' := wrap8 x1
      have w2' := wrap8 x2
      have w3' := wrap8 x3
      have b0 := x0.isLt
      have b1 := x1.isLt
      have b2 := x2.isLt
      have b3 := x3.isLt
      obtain ⟨y, hy⟩ : ∃ y, wd l i = y := ⟨_, rfl⟩
      have hstep : fillW l (i + 1) = (fillW l i).set i y := by rw [← hy]; rfl
      rw [hy] at hw4
      have c1 : IntKind.u32.wrap ((z0.toNat : Int) + (z1.toNat : Int)) = (z0.toNat : Int) + (z1.toNat : Int) := by rw [IntKind.wrap_u32]; omega
      have c2 : IntKind.u32.wrap ((z0.toNat : Int) + (z1.toNat : Int) + (z2.toNat : Int)) = (z0.toNat : Int) + (z1.toNat : Int) + (z2.toNat : Int) := by rw [IntKind.wrap_u32]; omega
      have c3 : IntKind.u32.wrap ((z0.toNat : Int) + (z1.toNat : Int) + (z2.toNat : Int) + (x3.toNat : Int)) = (y.toNat : Int) := by rw [IntKind.wrap_u32]; omega
      have m0 : IntKind.i64.wrap (4 * (i : Int)) = 4 * (i : Int) := IntWalk.i64_in _ ⟨by omega, by omega⟩
      have m1 : IntKind.i64.wrap (4 * (i : Int) + 1) = 4 * (i : Int) + 1 := IntWalk.i64_in _ ⟨by omega, by omega⟩
      have m2 : IntKind.i64.wrap (4 * (i : Int) + 2) = 4 * (i : Int) + 2 := IntWalk.i64_in _ ⟨by omega, by omega⟩
      have m3 : IntKind.i64.wrap (4 * (i : Int) + 3) = 4 * (i : Int) + 3 := IntWalk.i64_in _ ⟨by omega, by omega⟩
      have t0 : (4 * (i : Int)).toNat = 4 * i := by omega
      have t1 : (4 * (i : Int) + 1).toNat = 4 * i + 1 := by omega
      have t2 : (4 * (i : Int) + 2).toNat = 4 * i + 2 := by omega
      have t3 : (4 * (i : Int) + 3).toNat = 4 * i + 3 := by omega
      have g0 : 0 ≤ 4 * (i : Int) := by omega
      have g1 : 0 ≤ 4 * (i : Int) + 1 := by omega
      have g2 : 0 ≤ 4 * (i : Int) + 2 := by omega
      have g3 : 0 ≤ 4 * (i : Int) + 3 := by omega
      have l0 : 4 * (i : Int) < 64 := by omega
      have l1 : 4 * (i : Int) + 1 < 64 := by omega
      have l2 : 4 * (i : Int) + 2 < 64 := by omega
      have l3 : 4 * (i : Int) + 3 < 64 := by omega
      have hiI : (i : Int) < 64 := by omega
      replace hstep := Lib.hid hstep
      replace hst := Lib.hid hst
      clear e0 e1 e2 e3 hy hw4 hF hl v0 v1 v2 r0 b0 b1 b2 b3
      go_wp2
      go_still_tail 30, (by kernel_rfl)
      change wpList _ _ _ _ _ wr.drew
      clear w0' w1' w2' w3' c1 c2 c3 p0 p1 p2 m0 m1 m2 m3 t0 t1 t2 t3 g0 g1 g2 g3 l0 l1 l2 l3 q0 q1 q2 q3
      go_wp2
      go_roundg (16 - (i + 1))
      case measure => omega
      case rel => exact ⟨i + 1, rfl, by omega, by go_num, by rw [hstep.out]; exact hst.out.drew.setAt i y⟩
    · have e16 : i = 16 := by omega
      rw [e16] at hst
      have H0 : RT w s l (extW l (16 - 16)) wr := hst
      replace H0 := Lib.hid H0
      replace hst := Lib.hid hst
      replace e16 := Lib.hid e16
      clear r0
      go_wp2
      go_loopg [7] 48 (fun gk iv wr => ∃ i : Nat, gk = 64 - i ∧ 16 ≤ i ∧ i ≤ 64 ∧ iv = .int .i64 (i : Int) ∧ RT w s l (extW l (i - 16)) wr)
      case atStart => exact ⟨16, rfl, by omega, by omega, rfl, H0.out⟩
      case round =>
        clear hst H0 e16 hlt hi
        obtain ⟨i, rfl, hi1, hi2, rfl, hst⟩ := hrel
        have hLl := extW_len l (i - 16)
        by_cases hlt : i < 64
        · have hstep : extW l (i + 1 - 16) = (extW l (i - 16)).set i (nextW (extW l (i - 16)) i) := by
            rw [show i + 1 - 16 = (i - 16) + 1 by omega, extW, show 16 + (i - 16) = i by omega]
          obtain ⟨L, hL⟩ : ∃ L, extW l (i - 16) = L := ⟨_, rfl⟩
          rw [hL] at hst hLl hstep
          have q15 := hst.num (i - 15) (by omega)
          have q2 := hst.num (i - 2) (by omega)
          have q16 := hst.num (i - 16) (by omega)
          have q7 := hst.num (i - 7) (by omega)
          have qi := hst.num i (by omega)
          have f0 := fr_of hst.d3 i
          unfold nextW at hstep
          obtain ⟨a15, e15⟩ : ∃ a, L.getD (i - 15) 0 = a := ⟨_, rfl⟩
          obtain ⟨a2, e2⟩ : ∃ a, L.getD (i - 2) 0 = a := ⟨_, rfl⟩
          obtain ⟨a16, e16⟩ : ∃ a, L.getD (i - 16) 0 = a := ⟨_, rfl⟩
          obtain ⟨a7, e7⟩ : ∃ a, L.getD (i - 7) 0 = a := ⟨_, rfl⟩
          rw [e15] at q15 hstep
          rw [e2] at q2 hstep
          rw [e16] at q16 hstep
          rw [e7] at q7 hstep
          have s15 : IntKind.i64.wrap ((i : Int) - 15) = ((i - 15 : Nat) : Int) := by rw [show (i : Int) - 15 = ((i - 15 : Nat) : Int) by omega]; exact IntWalk.i64_in _ (by omega)
          have s2 : IntKind.i64.wrap ((i : Int) - 2) = ((i - 2 : Nat) : Int) := by rw [show (i : Int) - 2 = ((i - 2 : Nat) : Int) by omega]; exact IntWalk.i64_in _ (by omega)
          have s16 : IntKind.i64.wrap ((i : Int) - 16) = ((i - 16 : Nat) : Int) := by rw [show (i : Int) - 16 = ((i - 16 : Nat) : Int) by omega]; exact IntWalk.i64_in _ (by omega)
          have s7 : IntKind.i64.wrap ((i : Int) - 7) = ((i - 7 : Nat) : Int) := by rw [show (i : Int) - 7 = ((i - 7 : Nat) : Int) by omega]; exact IntWalk.i64_in _ (by omega)
          have h15 : ((i - 15 : Nat) : Int) < 64 := by omega
          have h2 : ((i - 2 : Nat) : Int) < 64 := by omega
          have h16 : ((i - 16 : Nat) : Int) < 64 := by omega
          have h7 : ((i - 7 : Nat) : Int) < 64 := by omega
          have hiI : (i : Int) < 64 := by omega
          obtain ⟨y7, v7⟩ : ∃ y, rot a15 7 = y := ⟨_, rfl⟩
          obtain ⟨y18, v18⟩ : ∃ y, rot a15 18 = y := ⟨_, rfl⟩
          obtain ⟨y3, v3⟩ : ∃ y, shf a15 3 = y := ⟨_, rfl⟩
          obtain ⟨y17, v17⟩ : ∃ y, rot a2 17 = y := ⟨_, rfl⟩
          obtain ⟨y19, v19⟩ : ∃ y, rot a2 19 = y := ⟨_, rfl⟩
          obtain ⟨y10, v10⟩ : ∃ y, shf a2 10 = y := ⟨_, rfl⟩
          have R7 := Lib.hid (rr_7 a15)
          have R18 := Lib.hid (rr_18 a15)
          have R3 := Lib.hid (rm_3 a15)
          have R17 := Lib.hid (rr_17 a2)
          have R19 := Lib.hid (rr_19 a2)
          have R10 := Lib.hid (rm_10 a2)
          rw [v7] at R7
          rw [v18] at R18
          rw [v3] at R3
          rw [v17] at R17
          rw [v19] at R19
          rw [v10] at R10
          obtain ⟨y71, q71, v71⟩ := l_xor y7 y18
          obtain ⟨y74, q74, v74⟩ := l_xor y71 y3
          obtain ⟨y79, q79, v79⟩ := l_xor y17 y19
          obtain ⟨y82, q82, v82⟩ := l_xor y79 y10
          obtain ⟨y89, q89, v89⟩ := l_add a16 y74
          obtain ⟨y94, q94, v94⟩ := l_add y89 a7
          obtain ⟨y96, q96, v96⟩ := l_add y94 y82
          have hsg0 : sg0 a15 = y74 := by rw [← v74, ← v71, ← v3, ← v18, ← v7]; rfl
          have hsg1 : sg1 a2 = y82 := by rw [← v82, ← v79, ← v10, ← v19, ← v17]; rfl
          rw [hsg0, hsg1, v89, v94, v96] at hstep
          replace hstep := Lib.hid hstep
          replace hst := Lib.hid hst
          clear e15 e2 e16 e7 hL hLl v7 v18 v3 v17 v19 v10 v71 v74 v79 v82 v89 v94 v96 hsg0 hsg1
          go_wp2
          go_quiet (fail)
          replace hst := Lib.hid (hst.out.drewN nq)
          obtain ⟨V, hV⟩ : ∃ Wx, wr.drewN nq = Wx := ⟨_, rfl⟩
          replace q16 : V.cell? ⟨w.heap.size + 1 + 1 + 1, i - 16, none⟩ = some (.int .u32 (a16.toNat : Int)) := by rw [← hV]; exact q16
          replace q7 : V.cell? ⟨w.heap.size + 1 + 1 + 1, i - 7, none⟩ = some (.int .u32 (a7.toNat : Int)) := by rw [← hV]; exact q7
          replace qi : V.cell? ⟨w.heap.size + 1 + 1 + 1, i, none⟩ = some (.int .u32 ((L.getD i 0).toNat : Int)) := by rw [← hV]; exact qi
          replace f0 : V.frozen? ⟨w.heap.size + 1 + 1 + 1, i, none⟩ = false := by rw [← hV]; exact f0
          rw [hV] at hst ⊢
          clear hV s15 s2 h15 h2 q15 q2
          go_wp2_with (first | (go_at_call_of 77 (Value.int IntKind.i64 7); refine (R7.out _).mono ?_; rintro e w' ⟨rfl, rfl⟩) | (go_at_call_of 77 (Value.int IntKind.i64 18); refine (R18.out _).mono ?_; rintro e w' ⟨rfl, rfl⟩) | (go_at_call_of 78 (Value.int IntKind.i64 3); refine (R3.out _).mono ?_; rintro e w' ⟨rfl, rfl⟩) | (go_at_call_of 77 (Value.int IntKind.i64 17); refine (R17.out _).mono ?_; rintro e w' ⟨rfl, rfl⟩) | (go_at_call_of 77 (Value.int IntKind.i64 19); refine (R19.out _).mono ?_; rintro e w' ⟨rfl, rfl⟩) | (go_at_call_of 78 (Value.int IntKind.i64 10); refine (R10.out _).mono ?_; rintro e w' ⟨rfl, rfl⟩) | fail)
          go_still_tail 14, (by kernel_rfl)
          change wpList _ _ _ _ _ V.drew
          clear s16 s7 h16 h7 q71 q74 q79 q82 q89 q94 q96 R7 R18 R3 R17 R19 R10 q16 q7
          go_wp2
          go_roundg (64 - (i + 1))
          case measure => omega
          case rel => exact ⟨i + 1, rfl, by omega, by omega, by go_num, by rw [hstep.out]; exact hst.out.drew.setAt i y96⟩
        · obtain rfl : i = 64 := by omega
          rw [show extW l (64 - 16) = schedL l from rfl] at hst hLl
          obtain ⟨X, hX⟩ : ∃ X, schedL l = X := ⟨_, rfl⟩
          rw [hX] at hst hLl
          have HX := Lib.hid hX
          have HXL := Lib.hid hLl
          replace hst := Lib.hid hst
          have HK2 := Lib.hid (show (Try.prog.info? 99).map (·.size) = some (U kL).size by rw [U_size, kL_len]; kernel_rfl)
          clear hX hLl
          go_upto_region 14 with (first | (go_at_call 79; refine (rconstants_any _).mono ?_; rintro e w2 ⟨rfl, hb2⟩) | ((with_reducible show wpList _ _ _ (⟨none, .store 99 (.tmp 12) (.tmp 98), _, _, _, _⟩ :: _) _ _); refine wpList_store_row rfl 99 (.tmp 12) (.tmp 98) rfl w2.heap.size (U kL) rfl rfl 99 _ (heap_new _ _ _ rfl) HK2.out (by rw [U_size, kL_len]; rfl) (U_one _) ?_))
          generalize hW3 : (World.setRow _ _ _) = W3
          have b3 : Below w2.heap.size w2 W3 := by rw [← hW3]; exact below_setRow _ _ ((Below.refl _ _).alloc (Nat.le_refl _) _) (Nat.le_refl _)
          have c12 : W3.heap[w2.heap.size]? = some (.cells (U kL) 99 (0, 0)) := by rw [← hW3]; exact setRow_heap _ _ _ _ _ _ (heap_new _ _ _ rfl)
          have lt12 : w2.heap.size < W3.heap.size := (Array.getElem?_eq_some_iff.1 c12).1
          have rt3 := (hst.out.below hb2).below b3
          have lt3 : w.heap.size + 1 + 1 + 1 < w2.heap.size := (Array.getElem?_eq_some_iff.1 (hst.out.below hb2).d3).1
          have d0 := Lib.hid rt3.d0
          replace rt3 := Lib.hid rt3
          replace c12 := Lib.hid c12
          clear hW3 b3 hb2 hst
          simp only [Act.put]
          go_upto_region 15 with (first | ((with_reducible show wpList _ _ _ (⟨some 99, .load 31 (.tmp 2), _, _, _, _⟩ :: _) _ _); refine wpList_load_row rfl 31 (.tmp 2) rfl w.heap.size rfl 31 (U s) _ d0.out Try.underlying31 rfl HS.out ?_) | ((with_reducible show wpList _ _ _ (⟨none, .store 31 (.tmp 13) (.tmp 99), _, _, _, _⟩ :: _) _ _); refine wpList_store_row rfl 31 (.tmp 13) (.tmp 99) rfl W3.heap.size (U s) rfl rfl 31 (U (List.replicate 8 0)) (heap_new _ _ _ rfl) HS.out (by rw [U_size, U_size, HSL.out]; simp) (U_one _) ?_))
          generalize hW4 : (World.setRow _ _ _) = W4
          have b4 : Below W3.heap.size W3 W4 := by rw [← hW4]; exact below_setRow _ _ ((Below.refl _ _).alloc (Nat.le_refl _) _) (Nat.le_refl _)
          have c13 : W4.heap[W3.heap.size]? = some (.cells (U s) 31 (0, 0)) := by rw [← hW4]; exact setRow_heap _ _ _ _ _ _ (heap_new _ _ _ rfl)
          have rt4 := rt3.out.below b4
          have st4 : ST w s s l (w.heap.size + 1 + 1 + 1) w2.heap.size W3.heap.size W4 := ⟨rt4.d0, rt4.d2, by rw [HX.out]; exact rt4.d3, keepH b4 c12.out, c13, rt4.bel⟩
          replace st4 := Lib.hid st4
          clear hW4 b4 c13 rt4 rt3 d0 c12
          simp only [Act.put]
          obtain ⟨g6, hg6⟩ : ∃ g, w2.heap.size = g := ⟨_, rfl⟩
          obtain ⟨g7, hg7⟩ : ∃ g, W3.heap.size = g := ⟨_, rfl⟩
          obtain ⟨g5, hg5⟩ : ∃ g, w.heap.size + 1 + 1 + 1 = g := ⟨_, rfl⟩
          rw [hg6, hg7, hg5] at st4
          rw [hg6] at lt12 lt3
          rw [hg7] at lt12
          rw [hg5] at lt3
          rw [hg6, hg7, hg5]
          have n57 : g5 ≠ g7 := by omega
          have n67 : g6 ≠ g7 := by omega
          have lt7 : w.heap.size + 3 ≤ g7 := by omega
          clear lt12 lt3 hg5 hg6 hg7
          go_wp2
          go_loopg [14] 64 (fun gk iv wr => ∃ i : Nat, gk = 64 - i ∧ i ≤ 64 ∧ iv = .int .i64 (i : Int) ∧ ST w s (roundsL (schedL l) s i) l g5 g6 g7 wr)
          case atStart => exact ⟨0, rfl, by omega, rfl, st4.out⟩
          case round =>
            clear hi1 hi2 hlt HK2 st4
            obtain ⟨i, rfl, hi, rfl, hst⟩ := hrel
            have hlr := roundsL_len (schedL l) s HSL.out i
            by_cases hlt : i < 64
            · have hstep : roundsL (schedL l) s (i + 1) = rnd (kL.getD i 0) ((schedL l).getD i 0) (roundsL (schedL l) s i) := rfl
              obtain ⟨R, hR⟩ : ∃ R, roundsL (schedL l) s i = R := ⟨_, rfl⟩
              rw [hR] at hlr hst hstep
              obtain ⟨a, b, c, d, e, f, g, h, rfl⟩ : ∃ a b c d e f g h, R = [a, b, c, d, e, f, g, h] := by
                match R, hlr with
                | [a, b, c, d, e, f, g, h], _ => exact ⟨a, b, c, d, e, f, g, h, rfl⟩
              have k4 := hst.cell 4 e rfl
              replace hstep := Lib.hid hstep
              replace hst := Lib.hid hst
              have hiI : (i : Int) < 64 := by omega
              obtain ⟨y6, v6⟩ : ∃ y, rot e 6 = y := ⟨_, rfl⟩
              obtain ⟨y11, v11⟩ : ∃ y, rot e 11 = y := ⟨_, rfl⟩
              obtain ⟨y25, v25⟩ : ∃ y, rot e 25 = y := ⟨_, rfl⟩
              have R6 := Lib.hid (rq_6 e)
              have R11 := Lib.hid (rq_11 e)
              have R25 := Lib.hid (rq_25 e)
              rw [v6] at R6
              rw [v11] at R11
              rw [v25] at R25
              obtain ⟨y44, q44, v44⟩ := l_xor y6 y11
              obtain ⟨y47, q47, v47⟩ := l_xor y44 y25
              have VB1 := Lib.hid (show bg1 e = y47 by rw [← v47, ← v44, ← v25, ← v11, ← v6]; rfl)
              clear hR hlr v6 v11 v25 v44 v47
              go_wp2
              go_quiet ((first | (go_at_call_of 77 (Value.int IntKind.i64 6); exact Calls.quiet_of_same (R6.out _)) | (go_at_call_of 77 (Value.int IntKind.i64 11); exact Calls.quiet_of_same (R11.out _)) | (go_at_call_of 77 (Value.int IntKind.i64 25); exact Calls.quiet_of_same (R25.out _))))
              clear k4 q44 q47 R6 R11 R25
              replace hst := Lib.hid (hst.out.drewN nq)
              obtain ⟨V, hV⟩ : ∃ Wx, wr.drewN nq = Wx := ⟨_, rfl⟩
              rw [hV] at hst ⊢
              clear hV
              have k7 := hst.out.cell 7 h rfl
              have k4 := hst.out.cell 4 e rfl
              have k5 := hst.out.cell 5 f rfl
              have k6 := hst.out.cell 6 g rfl
              have kk := hst.out.cellk i hlt
              have kx := hst.out.cellx i hlt
              obtain ⟨k, hk⟩ : ∃ k, kL.getD i 0 = k := ⟨_, rfl⟩
              obtain ⟨x, hx⟩ : ∃ x, (schedL l).getD i 0 = x := ⟨_, rfl⟩
              rw [hk] at kk hstep
              rw [hx] at kx hstep
              clear hk hx
              obtain ⟨y48, q48, v48⟩ := l_add h y47
              obtain ⟨y51, q51, v51⟩ := l_and e f
              obtain ⟨y53, q53, v53⟩ := l_not e
              obtain ⟨y55, q55, v55⟩ := l_and y53 g
              obtain ⟨y56, q56, v56⟩ := l_xor y51 y55
              obtain ⟨y57, q57, v57⟩ := l_add y48 y56
              obtain ⟨y61, q61, v61⟩ := l_add y57 k
              obtain ⟨y65, q65, v65⟩ := l_add y61 x
              have VT1 := Lib.hid (show y65 = tW1 e f g h k x by rw [← v65, ← v61, ← v57, ← v56, ← v55, ← v53, ← v51, ← v48, ← VB1.out]; rfl)
              clear v48 v51 v53 v55 v56 v57 v61 v65 VB1
              go_wp2
              go_quiet (fail)
              clear k7 k4 k5 k6 kk kx q48 q51 q53 q55 q56 q57 q61 q65
              replace hst := Lib.hid (hst.out.drewN nq)
              obtain ⟨V2, hV⟩ : ∃ Wx, V.drewN nq = Wx := ⟨_, rfl⟩
              rw [hV] at hst ⊢
              clear hV
              have k0 := hst.out.cell 0 a rfl
              obtain ⟨y2, v2⟩ : ∃ y, rot a 2 = y := ⟨_, rfl⟩
              obtain ⟨y13, v13⟩ : ∃ y, rot a 13 = y := ⟨_, rfl⟩
              obtain ⟨y22, v22⟩ : ∃ y, rot a 22 = y := ⟨_, rfl⟩
              have R2 := Lib.hid (rq_2 a)
              have R13 := Lib.hid (rq_13 a)
              have R22 := Lib.hid (rq_22 a)
              rw [v2] at R2
              rw [v13] at R13
              rw [v22] at R22
              obtain ⟨y70, q70, v70⟩ := l_xor y2 y13
              obtain ⟨y73, q73, v73⟩ := l_xor y70 y22
              have VB0 := Lib.hid (show bg0 a = y73 by rw [← v73, ← v70, ← v22, ← v13, ← v2]; rfl)
              clear v2 v13 v22 v70 v73
              go_wp2
              go_quiet ((first | (go_at_call_of 77 (Value.int IntKind.i64 2); exact Calls.quiet_of_same (R2.out _)) | (go_at_call_of 77 (Value.int IntKind.i64 13); exact Calls.quiet_of_same (R13.out _)) | (go_at_call_of 77 (Value.int IntKind.i64 22); exact Calls.quiet_of_same (R22.out _))))
              clear k0 q70 q73 R2 R13 R22
              replace hst := Lib.hid (hst.out.drewN nq)
              obtain ⟨V3, hV⟩ : ∃ Wx, V2.drewN nq = Wx := ⟨_, rfl⟩
              rw [hV] at hst ⊢
              clear hV
              have k0 := hst.out.cell 0 a rfl
              have k1 := hst.out.cell 1 b rfl
              have k2 := hst.out.cell 2 c rfl
              have k3 := hst.out.cell 3 d rfl
              have k4 := hst.out.cell 4 e rfl
              have k5 := hst.out.cell 5 f rfl
              have k6 := hst.out.cell 6 g rfl
              have k7 := hst.out.cell 7 h rfl
              obtain ⟨y76, q76, v76⟩ := l_and a b
              obtain ⟨y79, q79, v79⟩ := l_and a c
              obtain ⟨y80, q80, v80⟩ := l_xor y76 y79
              obtain ⟨y83, q83, v83⟩ := l_and b c
              obtain ⟨y84, q84, v84⟩ := l_xor y80 y83
              obtain ⟨y85, q85, p85, v85⟩ := l_sum y73 y84
              obtain ⟨y88, q88, p88, v88⟩ := l_sum y65 y85
              obtain ⟨y95, q95, p95, v95⟩ := l_sum d y65
              have HN := Lib.hid (show [y88, a, b, c, y95, e, f, g] = rnd k x [a, b, c, d, e, f, g, h] by
                have h2 : y85 = tW2 a b c := by rw [← v85, ← v84, ← v83, ← v80, ← v79, ← v76, ← VB0.out]; rfl
                rw [← v88, ← v95, h2, VT1.out]; rfl)
              have d7 := Lib.hid hst.out.d7
              clear v76 v79 v80 v83 v84 v85 v88 v95 VT1 VB0
              go_wp2_with ((with_reducible show wpList _ _ _ (⟨none, .store 31 (.tmp 13) (.tmp 189), _, _, _, _⟩ :: _) _ _); refine wpList_store_row rfl 31 (.tmp 13) (.tmp 189) rfl g7 (U [y88, a, b, c, y95, e, f, g]) rfl rfl 31 (U [a, b, c, d, e, f, g, h]) d7.out (by kernel_rfl) rfl (U_one _) ?_)
              go_roundg (64 - (i + 1))
              case measure => omega
              case rel => exact ⟨i + 1, rfl, by omega, by go_num, by rw [hstep.out, ← HN.out]; exact hst.out.put n57 n67 lt7⟩
            · obtain rfl : i = 64 := by omega
              obtain ⟨R, hR⟩ : ∃ R, roundsL (schedL l) s 64 = R := ⟨_, rfl⟩
              rw [hR] at hlr hst
              have HR := Lib.hid hR
              have HLR := Lib.hid hlr
              replace hst := Lib.hid hst
              clear hR hlr
              go_wp2
              go_loopg [19] 8 (fun gk iv wr => ∃ i : Nat, gk = 8 - i ∧ i ≤ 8 ∧ iv = .int .i64 (i : Int) ∧ ST w s (addK R s i) l g5 g6 g7 wr)
              case atStart => exact ⟨0, rfl, by omega, rfl, hst.out⟩
              case round =>
                clear hi hlt
                obtain ⟨i, rfl, hi, rfl, hst⟩ := hrel
                have hlr := addK_len R s HLR.out i
                by_cases hlt : i < 8
                · have hsl := HSL.out
                  have hstep : addK R s (i + 1) = (addK R s i).set i ((addK R s i).getD i 0 + s.getD i 0) := rfl
                  have q : wr.cell? ⟨g7, i, none⟩ = some (.int .u32 (((addK R s i).getD i 0).toNat : Int)) := by rw [Joins.cell_of_block hst.d7]; exact U_at _ i (by omega)
                  have q0 : wr.cell? ⟨w.heap.size, i, none⟩ = some (.int .u32 ((s.getD i 0).toNat : Int)) := by rw [Joins.cell_of_block hst.d2]; exact U_at _ i (by omega)
                  obtain ⟨Y, hY⟩ : ∃ Y, addK R s i = Y := ⟨_, rfl⟩
                  rw [hY] at hstep q hlr hst
                  obtain ⟨p, hp⟩ : ∃ p, Y.getD i 0 = p := ⟨_, rfl⟩
                  obtain ⟨r, hr⟩ : ∃ p, s.getD i 0 = p := ⟨_, rfl⟩
                  rw [hp] at q hstep
                  rw [hr] at q0 hstep
                  obtain ⟨y, q1, q2, v⟩ := l_sum p r
                  rw [v] at hstep
                  have f0 := fr_of hst.d7 i
                  have hiI : (i : Int) < 8 := by omega
                  replace hstep := Lib.hid hstep
                  replace hst := Lib.hid hst
                  clear hY hp hr hlr v hsl HR
                  go_wp2
                  go_still_tail 8, (by kernel_rfl)
                  change wpList _ _ _ _ _ wr.drew
                  clear q0 q1 q2
                  go_wp2
                  go_roundg (8 - (i + 1))
                  case measure => omega
                  case rel => exact ⟨i + 1, rfl, by omega, by go_num, by rw [hstep.out]; exact (hst.out.setAt n57 n67 lt7 i y).drewN 1⟩
                · obtain rfl : i = 8 := by omega
                  rw [addK_all R s HLR.out HSL.out] at hst
                  have HE := Lib.hid (show List.zipWith (· + ·) R s = stepL s l by rw [← HR.out]; rfl)
                  rw [HE.out] at hst
                  have hZl := stepL_len s l HSL.out
                  obtain ⟨Z, hZ⟩ : ∃ Z, stepL s l = Z := ⟨_, rfl⟩
                  rw [hZ] at hst hZl
                  have hsz : (Try.prog.info? 31).map (·.size) = some (U Z).size := by rw [U_size, hZl]; kernel_rfl
                  have HZ2 := Lib.hid (show (U (List.replicate 8 0)).size = (U Z).size by rw [U_size, U_size, hZl]; rfl)
                  have HSZ := Lib.hid hsz
                  have HZ := Lib.hid hZ
                  replace hst := Lib.hid hst
                  clear hsz hlr HR HE hZl hZ
                  go_upto_region 27 with (fail)
                  refine wp_region_list ?_
                  refine wpList_load_row rfl 31 (.tmp 13) rfl g7 rfl 31 (U Z) _ hst.out.d7 Try.underlying31 rfl HSZ.out ?_
                  refine wpList_store_row rfl 31 (.tmp 4) (.tmp 203) rfl (w.heap.size + 1 + 1) (U Z) rfl rfl 31 (U (List.replicate 8 0)) hst.out.d4 HSZ.out HZ2.out (U_one _) ?_
                  refine wpList_nil ?_
                  obtain ⟨Wz, hWz⟩ : ∃ Wz, wr.setRow (w.heap.size + 1 + 1) (U Z) = Wz := ⟨_, rfl⟩
                  have gz : Wz.heap[w.heap.size + 1 + 1]? = some (.cells (U Z) 31 (0, 0)) := by rw [← hWz]; exact setRow_heap _ _ _ _ _ _ hst.out.d4
                  have bz : Below w.heap.size w Wz := by rw [← hWz]; exact below_setRow _ _ hst.out.bel (by omega)
                  rw [hWz]
                  have hrv := run_loadVar_row (P := Try.prog) Wz (w.heap.size + 1 + 1) 31 31 (U Z) (0, 0) _ gz Try.underlying31 rfl HSZ.out
                  have HRV := Lib.hid hrv
                  clear hWz hrv gz
                  try simp only [Act.put, List.setIfInBounds_toArray, List.set_cons_zero, List.set_cons_succ]
                  go_wp2
                  have hrv := HRV.out
                  exact bodyPost_ret (v := .agg (U Z)) (by simp [results, Try.results29, asAddr, hrv]) rfl ⟨by rw [HZ.out], bz⟩
end Go.Proofs.Ytjaakhjfpigdfaa
