import Derived.Test.YtjaakhjfpigdfaaC8
/-! Same; MacSame. -/
namespace Go.Proofs.Ytjaakhjfpigdfaa
open Go.RowKit
set_option linter.unusedVariables false
set_option linter.unusedSimpArgs false
/-- All differences so far. -/
def accD (x y : By) : Nat → BitVec 8
  | 0 => 0
  | i + 1 => accD x y i ||| (x.getD i 0 ^^^ y.getD i 0)
theorem or_zero8 (a b : BitVec 8) : a ||| b = 0 ↔ a = 0 ∧ b = 0 := by
  constructor
  · intro h
    have key : ∀ j, a.getLsbD j = false ∧ b.getLsbD j = false := fun j => by
      have := congrArg (fun z => z.getLsbD j) h
      simpa [BitVec.getLsbD_or] using this
    exact ⟨BitVec.eq_of_getLsbD_eq fun j hj => by rw [(key j).1]; simp, BitVec.eq_of_getLsbD_eq fun j hj => by rw [(key j).2]; simp⟩
  · rintro ⟨rfl, rfl⟩; rfl
theorem xor_zero8 (a b : BitVec 8) : a ^^^ b = 0 ↔ a = b := by
  constructor
  · intro h
    have : a ^^^ b ^^^ b = 0 ^^^ b := by rw [h]
    rw [BitVec.xor_assoc, BitVec.xor_self, BitVec.xor_zero] at this
    simpa using this
  · rintro rfl; exact BitVec.xor_self
theorem accD_zero (x y : By) : ∀ n, accD x y n = 0 ↔ ∀ j, j < n → x.getD j 0 = y.getD j 0
  | 0 => by simp [accD]
  | n + 1 => by
    rw [accD, or_zero8, accD_zero x y n, xor_zero8]
    constructor
    · rintro ⟨h1, h2⟩ j hj
      by_cases e : j = n
      · rw [e]; exact h2
      · exact h1 j (by omega)
    · intro h
      exact ⟨fun j hj => h j (by omega), h n (by omega)⟩
theorem accD_eq (x y : By) (hx : x.length = 32) (hy : y.length = 32) : accD x y 32 = 0 ↔ x = y := by
  rw [accD_zero]
  constructor
  · intro h
    apply List.ext_getElem (by omega)
    intro j h1 h2
    have := h j (by omega)
    rw [List.getD_eq_getElem?_getD, List.getD_eq_getElem?_getD, List.getElem?_eq_getElem h1, List.getElem?_eq_getElem h2] at this
    exact this
  · rintro rfl j _; rfl
theorem or8 (a b : BitVec 8) : bits .or .u8 (a.toNat : Int) (b.toNat : Int) = ((a ||| b).toNat : Int) := by rw [u8_or_nat _ _ a.isLt b.isLt]; simp
set_option maxRecDepth 100000 in
theorem idx25 (g i : Nat) (h : i < 32) (w : World) : (do pure (Next.value (← Instr.indexAt 25 (.pointer (some ⟨g, 0, none⟩)) (.int .i64 (i : Int)))) : Sem Next).run Try.prog w = .ok (.value (.pointer (some ⟨g, i, none⟩))) w := by
  have h2 : (i : Int) < 32 := by omega
  simp [go_sem, h2]
def pdSM (a p q r s : BitVec 8) (g2 g3 i : Nat) : Nat → Value → World → Prop
  | 0 => fun v w => v = .int .u8 (a.toNat : Int)
  | 1 => fun v w => v = .int .i64 (i : Int)
  | 2 => fun v w => v = .pointer (some ⟨g2, i, none⟩)
  | 3 => fun v w => v = .int .u8 (p.toNat : Int)
  | 4 => fun v w => v = .int .i64 (i : Int)
  | 5 => fun v w => v = .pointer (some ⟨g3, i, none⟩)
  | 6 => fun v w => v = .int .u8 (q.toNat : Int)
  | 7 => fun v w => v = .int .u8 (r.toNat : Int)
  | 8 => fun v w => v = .int .u8 (s.toNat : Int)
  | _ => fun _ _ => True
theorem pdSM_mono (a p q r s : BitVec 8) (g2 g3 i : Nat) : ∀ q0 v w w', pdSM a p q r s g2 g3 i q0 v w → Below w.heap.size w w' → pdSM a p q r s g2 g3 i q0 v w'
  | 0, _, _, _, h, _ => h
  | 1, _, _, _, h, _ => h
  | 2, _, _, _, h, _ => h
  | 3, _, _, _, h, _ => h
  | 4, _, _, _, h, _ => h
  | 5, _, _, _, h, _ => h
  | 6, _, _, _, h, _ => h
  | 7, _, _, _, h, _ => h
  | 8, _, _, _, h, _ => h
  | _ + 9, _, _, _, _, _ => trivial
set_option maxRecDepth 100000 in
set_option maxHeartbeats 4000000 in
theorem same_any (x y : By) (hx : x.length = 32) (hy : y.length = 32) (w : World) : Calls Try.prog 50 #[.agg (V8 x), .agg (V8 y)] w fun e w' => e = .returned (.bool (x == y)) ∧ Below w.heap.size w w' := by
  have z2 : ((w.alloc (.cells (V8 x) 25)).alloc (.cells (V8 y) 25)).heap[w.heap.size]? = some (.cells (V8 x) 25 (0, 0)) := heap_old _ trivial (heap_new _ _ _ rfl)
  have z3 : ((w.alloc (.cells (V8 x) 25)).alloc (.cells (V8 y) 25)).heap[w.heap.size + 1]? = some (.cells (V8 y) 25 (0, 0)) := heap_new _ _ _ (by simp)
  have b2 : Below w.heap.size w ((w.alloc (.cells (V8 x) 25)).alloc (.cells (V8 y) 25)) := ((Below.refl _ _).alloc (Nat.le_refl _) _).alloc (by simp) _
  obtain ⟨W2, hW2⟩ : ∃ W, (w.alloc (.cells (V8 x) 25)).alloc (.cells (V8 y) 25) = W := ⟨_, rfl⟩
  rw [hW2] at z2 z3 b2
  have HAE := Lib.hid (accD_eq x y hx hy)
  have HX := Lib.hid hx
  have HY := Lib.hid hy
  have HW2 := Lib.hid hW2
  have Z2 := Lib.hid z2
  have Z3 := Lib.hid z3
  have B2 := Lib.hid b2
  clear hW2 z2 z3 b2 hx hy
  go_enter Try.func50, Try.ntmps50
  go_upto_region 1 with (fail)
  rw [HW2.out]
  obtain ⟨g2, hg2⟩ : ∃ g, w.heap.size = g := ⟨_, rfl⟩
  obtain ⟨g3, hg3⟩ : ∃ g, g2 + 1 = g := ⟨_, rfl⟩
  rw [hg2] at Z2 Z3
  rw [hg3] at Z3
  rw [hg2, hg3]
  clear HW2 hg2 hg3
  go_wp2
  go_loopg [5, 7] 32 (fun gk v5 v7 wr => ∃ i : Nat, gk = 32 - i ∧ i ≤ 32 ∧ v7 = .int .i64 (i : Int) ∧ v5 = .int .u8 ((accD x y i).toNat : Int) ∧ Below W2.heap.size W2 wr)
  case atStart => exact ⟨0, rfl, by omega, rfl, rfl, Below.refl _ _⟩
  case round =>
    obtain ⟨i, rfl, hi, rfl, rfl, hb⟩ := hrel
    by_cases hlt : i < 32
    · have q2 : wr.cell? ⟨g2, i, none⟩ = some (.int .u8 ((x.getD i 0).toNat : Int)) := by rw [Joins.cell_of_block (keepH hb Z2.out)]; exact V8_at _ i (by rw [HX.out]; exact hlt)
      have q3 : wr.cell? ⟨g3, i, none⟩ = some (.int .u8 ((y.getD i 0).toNat : Int)) := by rw [Joins.cell_of_block (keepH hb Z3.out)]; exact V8_at _ i (by rw [HY.out]; exact hlt)
      have hs : accD x y (i + 1) = accD x y i ||| (x.getD i 0 ^^^ y.getD i 0) := rfl
      obtain ⟨p, hp⟩ : ∃ p, x.getD i 0 = p := ⟨_, rfl⟩
      obtain ⟨q, hq⟩ : ∃ p, y.getD i 0 = p := ⟨_, rfl⟩
      obtain ⟨a, ha⟩ : ∃ p, accD x y i = p := ⟨_, rfl⟩
      obtain ⟨s, hs2⟩ : ∃ p, accD x y (i + 1) = p := ⟨_, rfl⟩
      rw [hp] at q2
      rw [hq] at q3
      rw [hp, hq, ha, hs2] at hs
      rw [ha]
      obtain ⟨r, hr⟩ : ∃ r, p ^^^ q = r := ⟨_, rfl⟩
      rw [hr] at hs
      have HXR := Lib.hid (show bits .xor .u8 (p.toNat : Int) (q.toNat : Int) = (r.toNat : Int) by rw [xor8, hr])
      have HOR := Lib.hid (show bits .or .u8 (a.toNat : Int) (r.toNat : Int) = (s.toNat : Int) by rw [or8, hs])
      have HS2 := Lib.hid hs2
      have Q2 := Lib.hid q2
      have Q3 := Lib.hid q3
      have HB := Lib.hid hb
      have hlI : (i : Int) < 32 := by omega
      clear q2 q3 hs hp hq ha hs2 hr hb
      go_upto_region 5 with (fail)
      refine wp_region_mono (w0 := _) 9 [some 10, some 11, some 12, some 13, some 14, some 15, some 16, some 17, some 18] (by kernel_rfl) (by kernel_rfl) (by kernel_rfl) (by kernel_rfl) (of_decide_eq_true (by kernel_rfl)) (by kernel_rfl) (pdSM a p q r s g2 g3 i) ?_ ?_ ?_
      · exact pdSM_mono a p q r s g2 g3 i
      · intro i hi o w1 b ho hbel hv hstood hsize K hK
        have hc : i = 0 ∨ i = 1 ∨ i = 2 ∨ i = 3 ∨ i = 4 ∨ i = 5 ∨ i = 6 ∨ i = 7 ∨ i = 8 := by omega
        rcases hc with rfl | rfl | rfl | rfl | rfl | rfl | rfl | rfl | rfl
        · obtain rfl : (⟨some 10, .move (Operand.tmp 5), _, _, _, _⟩ : Oper) = o := Option.some.inj ho
          refine ask_plain rfl ?_
          have e : b.eval (.tmp 5) = .int .u8 (a.toNat : Int) := (hstood 5 (by kernel_rfl)).trans rfl
          exact wp_val _ rfl (hK _ _ e (Below.refl _ _))
        · obtain rfl : (⟨some 11, .move (Operand.tmp 6), _, _, _, _⟩ : Oper) = o := Option.some.inj ho
          refine ask_plain rfl ?_
          have e : b.eval (.tmp 6) = .int .i64 (i : Int) := (hstood 6 (by kernel_rfl)).trans rfl
          exact wp_val _ rfl (hK _ _ e (Below.refl _ _))
        · obtain rfl : (⟨some 12, .indexAddr 25 (Operand.tmp 2) (Operand.tmp 11), _, _, _, _⟩ : Oper) = o := Option.some.inj ho
          refine ask_plain rfl ?_
          have e1 : b.eval (.tmp 2) = .pointer (some ⟨g2, 0, none⟩) := (hstood 2 (by kernel_rfl)).trans rfl
          have e2 : b.eval (.tmp 11) = .int .i64 (i : Int) := hv 1 11 (by kernel_rfl) (by kernel_rfl) (of_decide_eq_true (by kernel_rfl))
          exact wp_val (.pointer (some ⟨g2, i, none⟩)) (by simp only [execOp, e1, e2]; exact idx25 g2 i hlt w1) (hK _ _ rfl (Below.refl _ _))
        · obtain rfl : (⟨some 13, .load 5 (Operand.tmp 12), _, _, _, _⟩ : Oper) = o := Option.some.inj ho
          refine ask_plain rfl ?_
          have e : b.eval (.tmp 12) = .pointer (some ⟨g2, i, none⟩) := hv 2 12 (by kernel_rfl) (by kernel_rfl) (of_decide_eq_true (by kernel_rfl))
          have hq := (hbel.cell (World.block_lt_of_cell? _ _ Q2.out)).trans Q2.out
          exact wp_val (.int .u8 (p.toNat : Int)) (by simp only [execOp, e]; exact load5 _ _ _ hq) (hK _ _ rfl (Below.refl _ _))
        · obtain rfl : (⟨some 14, .move (Operand.tmp 6), _, _, _, _⟩ : Oper) = o := Option.some.inj ho
          refine ask_plain rfl ?_
          have e : b.eval (.tmp 6) = .int .i64 (i : Int) := (hstood 6 (by kernel_rfl)).trans rfl
          exact wp_val _ rfl (hK _ _ e (Below.refl _ _))
        · obtain rfl : (⟨some 15, .indexAddr 25 (Operand.tmp 3) (Operand.tmp 14), _, _, _, _⟩ : Oper) = o := Option.some.inj ho
          refine ask_plain rfl ?_
          have e1 : b.eval (.tmp 3) = .pointer (some ⟨g3, 0, none⟩) := (hstood 3 (by kernel_rfl)).trans rfl
          have e2 : b.eval (.tmp 14) = .int .i64 (i : Int) := hv 4 14 (by kernel_rfl) (by kernel_rfl) (of_decide_eq_true (by kernel_rfl))
          exact wp_val (.pointer (some ⟨g3, i, none⟩)) (by simp only [execOp, e1, e2]; exact idx25 g3 i hlt w1) (hK _ _ rfl (Below.refl _ _))
        · obtain rfl : (⟨some 16, .load 5 (Operand.tmp 15), _, _, _, _⟩ : Oper) = o := Option.some.inj ho
          refine ask_plain rfl ?_
          have e : b.eval (.tmp 15) = .pointer (some ⟨g3, i, none⟩) := hv 5 15 (by kernel_rfl) (by kernel_rfl) (of_decide_eq_true (by kernel_rfl))
          have hq := (hbel.cell (World.block_lt_of_cell? _ _ Q3.out)).trans Q3.out
          exact wp_val (.int .u8 (q.toNat : Int)) (by simp only [execOp, e]; exact load5 _ _ _ hq) (hK _ _ rfl (Below.refl _ _))
        · obtain rfl : (⟨some 17, .binOp BinOp.xor 5 (Operand.tmp 13) (Operand.tmp 16) 5, _, _, _, _⟩ : Oper) = o := Option.some.inj ho
          refine ask_plain rfl ?_
          have e0 : b.eval (.tmp 13) = .int .u8 (p.toNat : Int) := hv 3 13 (by kernel_rfl) (by kernel_rfl) (of_decide_eq_true (by kernel_rfl))
          have e1 : b.eval (.tmp 16) = .int .u8 (q.toNat : Int) := hv 6 16 (by kernel_rfl) (by kernel_rfl) (of_decide_eq_true (by kernel_rfl))
          exact wp_val (.int .u8 (r.toNat : Int)) (by simp only [execOp, e0, e1]; simp [go_sem, HXR.out]) (hK _ _ rfl (Below.refl _ _))
        · obtain rfl : (⟨some 18, .binOp BinOp.or 5 (Operand.tmp 10) (Operand.tmp 17) 5, _, _, _, _⟩ : Oper) = o := Option.some.inj ho
          refine ask_plain rfl ?_
          have e0 : b.eval (.tmp 10) = .int .u8 (a.toNat : Int) := hv 0 10 (by kernel_rfl) (by kernel_rfl) (of_decide_eq_true (by kernel_rfl))
          have e1 : b.eval (.tmp 17) = .int .u8 (r.toNat : Int) := hv 7 17 (by kernel_rfl) (by kernel_rfl) (of_decide_eq_true (by kernel_rfl))
          exact wp_val (.int .u8 (s.toNat : Int)) (by simp only [execOp, e0, e1]; simp [go_sem, HOR.out]) (hK _ _ rfl (Below.refl _ _))
      · intro vs w3 hp hb3
        have v0 : vs 0 = .int .u8 (a.toNat : Int) := hp 0 (by decide)
        have v1 : vs 1 = .int .i64 (i : Int) := hp 1 (by decide)
        have v2 : vs 2 = .pointer (some ⟨g2, i, none⟩) := hp 2 (by decide)
        have v3 : vs 3 = .int .u8 (p.toNat : Int) := hp 3 (by decide)
        have v4 : vs 4 = .int .i64 (i : Int) := hp 4 (by decide)
        have v5 : vs 5 = .pointer (some ⟨g3, i, none⟩) := hp 5 (by decide)
        have v6 : vs 6 = .int .u8 (q.toNat : Int) := hp 6 (by decide)
        have v7 : vs 7 = .int .u8 (r.toNat : Int) := hp 7 (by decide)
        have v8 : vs 8 = .int .u8 (s.toNat : Int) := hp 8 (by decide)
        have HB3 := Lib.hid (HB.out.trans (hb3.mono HB.out.size))
        change wpList _ _ _ [_] _ _
        simp only [putD, Act.put, List.setIfInBounds_toArray, List.set_cons_zero, List.set_cons_succ, v0, v1, v2, v3, v4, v5, v6, v7, v8]
        clear v0 v1 v2 v3 v4 v5 v6 v7 v8 hp hb3 HB
        go_wp2
        go_roundg (32 - (i + 1))
        case measure => omega
        case rel => exact ⟨i + 1, rfl, by omega, by go_num, by rw [HS2.out], HB3.out⟩
    · obtain rfl : i = 32 := by omega
      have HB := Lib.hid (B2.out.trans (hb.mono B2.out.size))
      have hae := HAE.out
      obtain ⟨a, ha⟩ : ∃ p, accD x y 32 = p := ⟨_, rfl⟩
      rw [ha] at hae
      rw [ha]
      have hr : (x == y) = decide (a = 0) := by
        by_cases e : x = y
        · rw [decide_eq_true (hae.2 e), e]; simp
        · rw [decide_eq_false (fun h => e (hae.1 h))]; simpa using e
      have hd2 : decide (a = 0#8) = decide ((a.toNat : Int) = 0) := by
        by_cases e : a = 0#8
        · subst e; rfl
        · have h2 : ¬ (a.toNat : Int) = 0 := fun h => e (BitVec.eq_of_toNat_eq (by simpa using h))
          rw [decide_eq_false e, decide_eq_false h2]
      have HRR := Lib.hid (show (x == y) = decide ((a.toNat : Int) = 0) by rw [hr, ← hd2]; rfl)
      clear hr hd2 hae ha hb
      by_cases hz : (a.toNat : Int) = 0
      · have HT := Lib.hid (show (x == y) = true by rw [HRR.out]; simpa using hz)
        obtain rfl : a = 0#8 := BitVec.eq_of_toNat_eq (by simpa using hz)
        clear hz
        go_wp2
        go_ret
        exact ⟨by rw [HT.out]; rfl, HB.out⟩
      · have HT := Lib.hid (show (x == y) = false by rw [HRR.out]; simpa using hz)
        have hd : ((a.toNat : Int) == 0) = false := by simpa using hz
        have hd2 : decide ((a.toNat : Int) = 0) = false := by simpa using hz
        go_wp2
        go_ret
        exact ⟨by rw [HT.out]; try simp [hd, hd2, hz], HB.out⟩
theorem same_self (x : By) (hx : x.length = 32) (w : World) : Calls Try.prog 50 #[.agg (V8 x), .agg (V8 x)] w fun e w' => e = .returned (.bool true) ∧ Below w.heap.size w w' := by
  have h := same_any x x hx hx w
  rw [show (x == x) = true by simp] at h
  exact h
def pdSL (X Y : By) : Nat → Value → World → Prop
  | 0 => fun v w => v = .agg (V8 X)
  | 1 => fun v w => v = .agg (V8 Y)
  | 2 => fun v w => v = .bool (X == Y)
  | 3 => fun v w => v = .agg (V8 X)
  | 4 => fun v w => v = .agg (V8 Y)
  | 5 => fun v w => v = .bool (X == Y)
  | 6 => fun v w => v = .bool true
  | 7 => fun v w => v = .bool true
  | 8 => fun v w => v = .agg (V8 X)
  | 9 => fun v w => v = .agg (V8 X)
  | 10 => fun v w => v = .bool true
  | 11 => fun v w => v = .bool true
  | 12 => fun v w => v = .bool true
  | 13 => fun v w => v = .bool true
  | 14 => fun v w => v = .bool true
  | _ => fun _ _ => True
theorem pdSL_mono (X Y : By) : ∀ q0 v w w', pdSL X Y q0 v w → Below w.heap.size w w' → pdSL X Y q0 v w'
  | 0, _, _, _, h, _ => h
  | 1, _, _, _, h, _ => h
  | 2, _, _, _, h, _ => h
  | 3, _, _, _, h, _ => h
  | 4, _, _, _, h, _ => h
  | 5, _, _, _, h, _ => h
  | 6, _, _, _, h, _ => h
  | 7, _, _, _, h, _ => h
  | 8, _, _, _, h, _ => h
  | 9, _, _, _, h, _ => h
  | 10, _, _, _, h, _ => h
  | 11, _, _, _, h, _ => h
  | 12, _, _, _, h, _ => h
  | 13, _, _, _, h, _ => h
  | 14, _, _, _, h, _ => h
  | _ + 15, _, _, _, _, _ => trivial
set_option maxRecDepth 100000 in
set_option maxHeartbeats 4000000 in
theorem macSame_true (X Y : By) (w : World) (hX : X.length = 32) (hY : Y.length = 32) : Calls Try.prog 12 #[.agg (V8 X), .agg (V8 Y)] w fun e w' => e = .returned (.bool true) ∧ Below w.heap.size w w' := by
  have z2 : ((w.alloc (.cells (V8 X) 25)).alloc (.cells (V8 Y) 25)).heap[w.heap.size]? = some (.cells (V8 X) 25 (0, 0)) := heap_old _ trivial (heap_new _ _ _ rfl)
  have z3 : ((w.alloc (.cells (V8 X) 25)).alloc (.cells (V8 Y) 25)).heap[w.heap.size + 1]? = some (.cells (V8 Y) 25 (0, 0)) := heap_new _ _ _ (by simp)
  have b2 : Below w.heap.size w ((w.alloc (.cells (V8 X) 25)).alloc (.cells (V8 Y) 25)) := ((Below.refl _ _).alloc (Nat.le_refl _) _).alloc (by simp) _
  obtain ⟨W2, hW2⟩ : ∃ W, (w.alloc (.cells (V8 X) 25)).alloc (.cells (V8 Y) 25) = W := ⟨_, rfl⟩
  rw [hW2] at z2 z3 b2
  have HX := Lib.hid hX
  have HY := Lib.hid hY
  have HSX := Lib.hid (show (Try.prog.info? 25).map (·.size) = some (V8 X).size by rw [V8_size, hX]; kernel_rfl)
  have HSY := Lib.hid (show (Try.prog.info? 25).map (·.size) = some (V8 Y).size by rw [V8_size, hY]; kernel_rfl)
  have HEQ := Lib.hid (fun w => eq_dig 25 Try.underlying25 X Y hX hY w)
  have HW2 := Lib.hid hW2
  have Q2 := Lib.hid z2
  have Q3 := Lib.hid z3
  have B2 := Lib.hid b2
  clear hW2 z2 z3 b2 hX hY
  go_enter Try.func12, Try.ntmps12
  go_upto_region 1 with (fail)
  rw [HW2.out]
  obtain ⟨g2, hg2⟩ : ∃ g, w.heap.size = g := ⟨_, rfl⟩
  obtain ⟨g3, hg3⟩ : ∃ g, g2 + 1 = g := ⟨_, rfl⟩
  rw [hg2] at Q2 Q3
  rw [hg3] at Q3
  rw [hg2, hg3]
  clear HW2 hg2 hg3
  refine wp_region_mono (w0 := _) 15 [some 5, some 6, some 7, some 8, some 9, some 10, some 11, some 12, some 13, some 14, some 15, some 16, some 17, some 18, some 19] (by kernel_rfl) (by kernel_rfl) (by kernel_rfl) (by kernel_rfl) (of_decide_eq_true (by kernel_rfl)) (by kernel_rfl) (pdSL X Y) ?_ ?_ ?_
  · exact pdSL_mono X Y
  · intro i hi o w1 b ho hbel hv hstood hsize K hK
    have hc : i = 0 ∨ i = 1 ∨ i = 2 ∨ i = 3 ∨ i = 4 ∨ i = 5 ∨ i = 6 ∨ i = 7 ∨ i = 8 ∨ i = 9 ∨ i = 10 ∨ i = 11 ∨ i = 12 ∨ i = 13 ∨ i = 14 := by omega
    rcases hc with rfl | rfl | rfl | rfl | rfl | rfl | rfl | rfl | rfl | rfl | rfl | rfl | rfl | rfl | rfl
    · obtain rfl : (⟨some 5, .load 25 (Operand.tmp 2), _, _, _, _⟩ : Oper) = o := Option.some.inj ho
      refine ask_plain rfl ?_
      have e1 : b.eval (.tmp 2) = .pointer (some ⟨g2, 0, none⟩) := (hstood 2 (by kernel_rfl)).trans rfl
      exact wp_load_cells 25 (.tmp 2) rfl ⟨g2, 0, none⟩ e1 (V8 X) _ rfl (fun j v hj => by rw [add_zero_off, Joins.cell_of_block ((hbel.block _ (Array.getElem?_eq_some_iff.1 Q2.out).1).trans Q2.out)]; exact hj) Try.underlying25 HSX.out (hK _ _ rfl (Below.refl _ _))
    · obtain rfl : (⟨some 6, .load 25 (Operand.tmp 3), _, _, _, _⟩ : Oper) = o := Option.some.inj ho
      refine ask_plain rfl ?_
      have e1 : b.eval (.tmp 3) = .pointer (some ⟨g3, 0, none⟩) := (hstood 3 (by kernel_rfl)).trans rfl
      exact wp_load_cells 25 (.tmp 3) rfl ⟨g3, 0, none⟩ e1 (V8 Y) _ rfl (fun j v hj => by rw [add_zero_off, Joins.cell_of_block ((hbel.block _ (Array.getElem?_eq_some_iff.1 Q3.out).1).trans Q3.out)]; exact hj) Try.underlying25 HSY.out (hK _ _ rfl (Below.refl _ _))
    · obtain rfl : (⟨some 7, .call { callee := (Callee.value (Operand.func 50)), args := #[(Operand.tmp 5), (Operand.tmp 6)], argTypes := #[25, 25] }, _, _, _, _⟩ : Oper) = o := Option.some.inj ho
      refine ask_plain rfl ?_
      have e1 : b.eval (.tmp 5) = .agg (V8 X) := hv 0 5 (by kernel_rfl) (by kernel_rfl) (of_decide_eq_true (by kernel_rfl))
      have e2 : b.eval (.tmp 6) = .agg (V8 Y) := hv 1 6 (by kernel_rfl) (by kernel_rfl) (of_decide_eq_true (by kernel_rfl))
      refine wp_call_fn 50 _ #[25, 25] rfl Try.f50 _ Try.func50 (by kernel_rfl) rfl #[.agg (V8 X), .agg (V8 Y)] (by simp [e1, e2]; try rfl) ((same_any X Y HX.out HY.out w1).mono ?_)
      rintro e w2 ⟨rfl, hb2⟩
      exact ⟨_, rfl, hK _ _ rfl hb2⟩
    · obtain rfl : (⟨some 8, .load 25 (Operand.tmp 2), _, _, _, _⟩ : Oper) = o := Option.some.inj ho
      refine ask_plain rfl ?_
      have e1 : b.eval (.tmp 2) = .pointer (some ⟨g2, 0, none⟩) := (hstood 2 (by kernel_rfl)).trans rfl
      exact wp_load_cells 25 (.tmp 2) rfl ⟨g2, 0, none⟩ e1 (V8 X) _ rfl (fun j v hj => by rw [add_zero_off, Joins.cell_of_block ((hbel.block _ (Array.getElem?_eq_some_iff.1 Q2.out).1).trans Q2.out)]; exact hj) Try.underlying25 HSX.out (hK _ _ rfl (Below.refl _ _))
    · obtain rfl : (⟨some 9, .load 25 (Operand.tmp 3), _, _, _, _⟩ : Oper) = o := Option.some.inj ho
      refine ask_plain rfl ?_
      have e1 : b.eval (.tmp 3) = .pointer (some ⟨g3, 0, none⟩) := (hstood 3 (by kernel_rfl)).trans rfl
      exact wp_load_cells 25 (.tmp 3) rfl ⟨g3, 0, none⟩ e1 (V8 Y) _ rfl (fun j v hj => by rw [add_zero_off, Joins.cell_of_block ((hbel.block _ (Array.getElem?_eq_some_iff.1 Q3.out).1).trans Q3.out)]; exact hj) Try.underlying25 HSY.out (hK _ _ rfl (Below.refl _ _))
    · obtain rfl : (⟨some 10, .binOp BinOp.eql 25 (Operand.tmp 8) (Operand.tmp 9) 25, _, _, _, _⟩ : Oper) = o := Option.some.inj ho
      refine ask_plain rfl ?_
      have e0 : b.eval (.tmp 8) = .agg (V8 X) := hv 3 8 (by kernel_rfl) (by kernel_rfl) (of_decide_eq_true (by kernel_rfl))
      have e1 : b.eval (.tmp 9) = .agg (V8 Y) := hv 4 9 (by kernel_rfl) (by kernel_rfl) (of_decide_eq_true (by kernel_rfl))
      exact wp_val (.bool (X == Y)) (by simp only [execOp, e0, e1]; simp [go_sem, HEQ.out]) (hK _ _ rfl (Below.refl _ _))
    · obtain rfl : (⟨some 11, .binOp BinOp.eql 4 (Operand.tmp 7) (Operand.tmp 10) 4, _, _, _, _⟩ : Oper) = o := Option.some.inj ho
      refine ask_plain rfl ?_
      have e0 : b.eval (.tmp 7) = .bool (X == Y) := hv 2 7 (by kernel_rfl) (by kernel_rfl) (of_decide_eq_true (by kernel_rfl))
      have e1 : b.eval (.tmp 10) = .bool (X == Y) := hv 5 10 (by kernel_rfl) (by kernel_rfl) (of_decide_eq_true (by kernel_rfl))
      exact wp_val (.bool true) (by simp only [execOp, e0, e1]; simp [go_sem]) (hK _ _ rfl (Below.refl _ _))
    · obtain rfl : (⟨some 12, .move (Operand.tmp 11), _, _, _, _⟩ : Oper) = o := Option.some.inj ho
      refine ask_plain rfl ?_
      have e : b.eval (.tmp 11) = .bool true := hv 6 11 (by kernel_rfl) (by kernel_rfl) (of_decide_eq_true (by kernel_rfl))
      exact wp_val _ rfl (hK _ _ e (Below.refl _ _))
    · obtain rfl : (⟨some 13, .load 25 (Operand.tmp 2), _, _, _, _⟩ : Oper) = o := Option.some.inj ho
      have hgd := hv 7 12 (by kernel_rfl) (by kernel_rfl) (of_decide_eq_true (by kernel_rfl))
      refine ask_yes 7 12 true rfl (by kernel_rfl) (by rw [hsize]; exact (of_decide_eq_true (by kernel_rfl))) hgd ?_
      have e1 : b.eval (.tmp 2) = .pointer (some ⟨g2, 0, none⟩) := (hstood 2 (by kernel_rfl)).trans rfl
      exact wp_load_cells 25 (.tmp 2) rfl ⟨g2, 0, none⟩ e1 (V8 X) _ rfl (fun j v hj => by rw [add_zero_off, Joins.cell_of_block ((hbel.block _ (Array.getElem?_eq_some_iff.1 Q2.out).1).trans Q2.out)]; exact hj) Try.underlying25 HSX.out (hK _ _ rfl (Below.refl _ _))
    · obtain rfl : (⟨some 14, .load 25 (Operand.tmp 2), _, _, _, _⟩ : Oper) = o := Option.some.inj ho
      have hgd := hv 7 12 (by kernel_rfl) (by kernel_rfl) (of_decide_eq_true (by kernel_rfl))
      refine ask_yes 7 12 true rfl (by kernel_rfl) (by rw [hsize]; exact (of_decide_eq_true (by kernel_rfl))) hgd ?_
      have e1 : b.eval (.tmp 2) = .pointer (some ⟨g2, 0, none⟩) := (hstood 2 (by kernel_rfl)).trans rfl
      exact wp_load_cells 25 (.tmp 2) rfl ⟨g2, 0, none⟩ e1 (V8 X) _ rfl (fun j v hj => by rw [add_zero_off, Joins.cell_of_block ((hbel.block _ (Array.getElem?_eq_some_iff.1 Q2.out).1).trans Q2.out)]; exact hj) Try.underlying25 HSX.out (hK _ _ rfl (Below.refl _ _))
    · obtain rfl : (⟨some 15, .call { callee := (Callee.value (Operand.func 50)), args := #[(Operand.tmp 13), (Operand.tmp 14)], argTypes := #[25, 25] }, _, _, _, _⟩ : Oper) = o := Option.some.inj ho
      have hgd := hv 7 12 (by kernel_rfl) (by kernel_rfl) (of_decide_eq_true (by kernel_rfl))
      refine ask_yes 7 12 true rfl (by kernel_rfl) (by rw [hsize]; exact (of_decide_eq_true (by kernel_rfl))) hgd ?_
      have e1 : b.eval (.tmp 13) = .agg (V8 X) := hv 8 13 (by kernel_rfl) (by kernel_rfl) (of_decide_eq_true (by kernel_rfl))
      have e2 : b.eval (.tmp 14) = .agg (V8 X) := hv 9 14 (by kernel_rfl) (by kernel_rfl) (of_decide_eq_true (by kernel_rfl))
      refine wp_call_fn 50 _ #[25, 25] rfl Try.f50 _ Try.func50 (by kernel_rfl) rfl #[.agg (V8 X), .agg (V8 X)] (by simp [e1, e2]; try rfl) ((same_self X HX.out w1).mono ?_)
      rintro e w2 ⟨rfl, hb2⟩
      exact ⟨_, rfl, hK _ _ rfl hb2⟩
    · obtain rfl : (⟨some 16, .pick (Operand.tmp 12) (Operand.tmp 15) (Operand.const (Value.bool false)), _, _, _, _⟩ : Oper) = o := Option.some.inj ho
      refine ask_plain rfl ?_
      have e0 : b.eval (.tmp 12) = .bool true := hv 7 12 (by kernel_rfl) (by kernel_rfl) (of_decide_eq_true (by kernel_rfl))
      have e1 : b.eval (.tmp 15) = .bool true := hv 10 15 (by kernel_rfl) (by kernel_rfl) (of_decide_eq_true (by kernel_rfl))
      exact wp_val (.bool true) (by simp only [execOp, e0, e1]; rfl) (hK _ _ rfl (Below.refl _ _))
    · obtain rfl : (⟨some 17, .move (Operand.tmp 16), _, _, _, _⟩ : Oper) = o := Option.some.inj ho
      refine ask_plain rfl ?_
      have e : b.eval (.tmp 16) = .bool true := hv 11 16 (by kernel_rfl) (by kernel_rfl) (of_decide_eq_true (by kernel_rfl))
      exact wp_val _ rfl (hK _ _ e (Below.refl _ _))
    · obtain rfl : (⟨some 18, .call { callee := (Callee.value (Operand.func 44)), args := #[], argTypes := #[] }, _, _, _, _⟩ : Oper) = o := Option.some.inj ho
      have hgd := hv 12 17 (by kernel_rfl) (by kernel_rfl) (of_decide_eq_true (by kernel_rfl))
      refine ask_yes 12 17 true rfl (by kernel_rfl) (by rw [hsize]; exact (of_decide_eq_true (by kernel_rfl))) hgd ?_
      refine wp_call_fn 44 #[] #[] rfl Try.f44 _ Try.func44 (by kernel_rfl) rfl #[] (by simp) ((awake4_any w1).mono ?_)
      rintro e w2 ⟨rfl, hb2⟩
      exact ⟨_, rfl, hK _ _ rfl hb2⟩
    · obtain rfl : (⟨some 19, .pick (Operand.tmp 17) (Operand.tmp 18) (Operand.const (Value.bool false)), _, _, _, _⟩ : Oper) = o := Option.some.inj ho
      refine ask_plain rfl ?_
      have e0 : b.eval (.tmp 17) = .bool true := hv 12 17 (by kernel_rfl) (by kernel_rfl) (of_decide_eq_true (by kernel_rfl))
      have e1 : b.eval (.tmp 18) = .bool true := hv 13 18 (by kernel_rfl) (by kernel_rfl) (of_decide_eq_true (by kernel_rfl))
      exact wp_val (.bool true) (by simp only [execOp, e0, e1]; rfl) (hK _ _ rfl (Below.refl _ _))
  · intro vs w3 hp hb3
    have HB3 := Lib.hid (B2.out.trans (hb3.mono B2.out.size))
    have v14 : vs 14 = .bool true := hp 14 (by decide)
    change wpList _ _ _ [_] _ _
    simp only [putD, Act.put, List.setIfInBounds_toArray, List.set_cons_zero, List.set_cons_succ, v14]
    generalize vs 0 = y0, vs 1 = y1, vs 2 = y2
    clear hp hb3
    go_wp2
    go_ret
    exact ⟨rfl, HB3.out⟩
end Go.Proofs.Ytjaakhjfpigdfaa
