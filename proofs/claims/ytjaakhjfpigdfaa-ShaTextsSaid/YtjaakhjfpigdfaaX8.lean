import Derived.Test.YtjaakhjfpigdfaaX7
import Derived.Test.YtjaakhjfpigdfaaV4
/-! the document's Read. -/
namespace Go.Proofs.Ytjaakhjfpigdfaa
open Go.RowKit
set_option linter.unusedVariables false
set_option linter.unusedSimpArgs false
def pdRA (s : ByteArray) (k j : Nat) (c : UInt8) (bb : Bool) : Nat → Value → World → Prop
  | 0 => fun v w => v = .int .i64 (j : Int)
  | 1 => fun v w => v = .bool true
  | 2 => fun v w => v = .bool true
  | 3 => fun v w => v = .int .i64 (j : Int)
  | 4 => fun v w => v = .int .u8 ((hexc j).toNat : Int)
  | 5 => fun v w => v = .string s
  | 6 => fun v w => v = .int .i64 (k : Int)
  | 7 => fun v w => v = .int .u8 (c.toNat : Int)
  | 8 => fun v w => v = .bool bb
  | _ => fun _ _ => True
theorem pdRA_mono (s : ByteArray) (k j : Nat) (c : UInt8) (bb : Bool) : ∀ q v w w', pdRA s k j c bb q v w → Below w.heap.size w w' → pdRA s k j c bb q v w'
  | 0, _, _, _, h, _ => h
  | 1, _, _, _, h, _ => h
  | 2, _, _, _, h, _ => h
  | 3, _, _, _, h, _ => h
  | 4, _, _, _, h, _ => h
  | 5, _, _, _, h, _ => h
  | 6, _, _, _, h, _ => h
  | 7, _, _, _, h, _ => h
  | 8, _, _, _, h, _ => h
  | _ + 9, _, _, _, _, _ => trivial
def pdRB  : Nat → Value → World → Prop
  | 0 => fun v w => v = .int .i64 16
  | 1 => fun v w => v = .bool false
  | 2 => fun v w => v = .bool false
  | 3 => fun v w => v = undef
  | 4 => fun v w => v = undef
  | 5 => fun v w => v = undef
  | 6 => fun v w => v = undef
  | 7 => fun v w => v = undef
  | 8 => fun v w => v = undef
  | _ => fun _ _ => True
theorem pdRB_mono  : ∀ q v w w', pdRB  q v w → Below w.heap.size w w' → pdRB  q v w'
  | 0, _, _, _, h, _ => h
  | 1, _, _, _, h, _ => h
  | 2, _, _, _, h, _ => h
  | 3, _, _, _, h, _ => h
  | 4, _, _, _, h, _ => h
  | 5, _, _, _, h, _ => h
  | 6, _, _, _, h, _ => h
  | 7, _, _, _, h, _ => h
  | 8, _, _, _, h, _ => h
  | _ + 9, _, _, _, _, _ => trivial
set_option maxRecDepth 100000 in
theorem hexi (j : Nat) (h : j < 16) (w : World) : (do pure (Next.value (← Instr.index 9 (.string ⟨#[48, 49, 50, 51, 52, 53, 54, 55, 56, 57, 97, 98, 99, 100, 101, 102]⟩) (.int .i64 (j : Int)))) : Sem Next).run Try.prog w = .ok (.value (.int .u8 ((hexc j).toNat : Int))) w := by
  have h1 : hexS[j]? = some (hexc j) := hexS_at j h
  have h2 := str_at hexS j _ h1 w
  show (do pure (Next.value (← Instr.index 9 (.string hexS) (.int .i64 (j : Int)))) : Sem Next).run Try.prog w = _
  simp only [Sem.run_bind, h2, Result.andThen]
  rfl
set_option maxRecDepth 100000 in
set_option maxHeartbeats 4000000 in
theorem rread_any (s : ByteArray) (w : World) (hsz : s.size ≤ 140737488351232) : Calls Try.prog 37 #[.string s] w fun e w' => e = .returned (.tuple #[.agg (V8 (readD s.data.toList)), .int .i64 (readE s.data.toList)]) ∧ Below w.heap.size w w' := by
  have hz := zeros32
  have hone := V8_one (List.replicate 32 0)
  have hz0 := halfL_zero s.data.toList
  have hzs : (V8 (List.replicate 32 0)).size = 32 := by rw [V8_size]; rfl
  obtain ⟨Zr, hZr⟩ : ∃ Z, V8 (List.replicate 32 0) = Z := ⟨_, rfl⟩
  rw [hZr] at hz hone hzs
  have HSZ := Lib.hid (show (Try.prog.info? 24).map (·.size) = some Zr.size by rw [← hZr]; kernel_rfl)
  have HZr := Lib.hid hZr
  have HZ := Lib.hid hz
  have HZS := Lib.hid hzs
  have HF0 := Lib.hid (show V8 (halfL s.data.toList 0) = Zr by rw [hz0, hZr])
  have hsl : s.data.toList.length = s.size := by simp
  have HLEN := Lib.hid hsl
  clear hZr hz hz0 hzs hsl
  have HA := Lib.hid (ba_at s)
  have hls := HLEN.out
  obtain ⟨l, hl⟩ : ∃ l, s.data.toList = l := ⟨_, rfl⟩
  rw [hl] at HF0 HA hls ⊢
  have HLL := Lib.hid hls
  clear hl HLEN hls
  go_enter Try.func37, Try.ntmps37
  go_upto_region 2 with (fail)
  rw [← HZ.out]
  obtain ⟨W2, hW2⟩ : ∃ W, (w.alloc (.cells Zr 24)).alloc (.cells Zr 24) = W := ⟨_, rfl⟩
  obtain ⟨g4, hg4⟩ : ∃ g, w.heap.size + 1 = g := ⟨_, rfl⟩
  have Z2 := Lib.hid (show W2.heap[w.heap.size]? = some (.cells Zr 24 (0, 0)) by rw [← hW2]; exact heap_old _ trivial (heap_new _ _ _ rfl))
  have Z4 := Lib.hid (show W2.heap[g4]? = some (.cells Zr 24 (0, 0)) by rw [← hW2, ← hg4]; exact heap_new _ _ _ (by simp))
  have B2 := Lib.hid (show Below w.heap.size w W2 by rw [← hW2]; exact ((Below.refl _ _).alloc (Nat.le_refl _) _).alloc (by simp) _)
  have HG4 := Lib.hid hg4
  rw [hW2, hg4]
  clear hW2 hg4
  by_cases h64 : s.size = 64
  · have hq : ((s.size : Int) != 64) = false := by rw [h64]; rfl
    have HLL2 := Lib.hid (show l.length = 64 by rw [HLL.out]; exact h64)
    clear h64
    go_upto_region 4 with (fail)
    go_wp2
    go_loopg [5] 64 (fun gk v5 wr => ∃ k : Nat, gk = 64 - k ∧ k ≤ 64 ∧ v5 = .int .i64 (k : Int) ∧ wr.heap[w.heap.size]? = some (.cells Zr 24 (0, 0)) ∧ wr.heap[g4]? = some (.cells (V8 (halfL l k)) 24 (0, 0)) ∧ Below w.heap.size w wr ∧ ∀ j, j < k → nibN (l.getD j 0) < 16)
    case atStart => exact ⟨0, rfl, by omega, rfl, Z2.out, by rw [HF0.out]; exact Z4.out, B2.out, fun k hk => by omega⟩
    case round =>
      clear Z2 Z4 B2
      obtain ⟨k, rfl, hk, rfl, hz2, hz4, hb, hnn⟩ := hrel
      by_cases hlt : k < 64
      · have hi1 := HA.out k (by rw [HLL2.out]; omega)
        have hno1 := ok_no l k hlt
        have hstp := halfL_step l k hlt
        have hfl := halfL_len l k
        obtain ⟨c, hc⟩ : ∃ x, l.getD k 0 = x := ⟨_, rfl⟩
        rw [hc] at hi1 hno1 hstp
        obtain ⟨P, hP⟩ : ∃ P, halfL l k = P := ⟨_, rfl⟩
        rw [hP] at hz4 hfl hstp
        have HC := Lib.hid hc
        have HI := Lib.hid (fun w => str_at s k c hi1 w)
        have HNO := Lib.hid hno1
        have HST := Lib.hid hstp
        have HFL := Lib.hid hfl
        have Z2 := Lib.hid hz2
        have Z4 := Lib.hid hz4
        have HB := Lib.hid hb
        have HNN := Lib.hid hnn
        have hlI : (k : Int) < 64 := by omega
        clear hi1 hno1 hstp hfl hc hP hz2 hz4 hb hnn
        go_wp2
        go_loopg [6] 16 (fun gk v6 wq => ∃ j : Nat, gk = 16 - j ∧ j ≤ nibN c ∧ v6 = .int .i64 (j : Int) ∧ wq.heap[w.heap.size]? = some (.cells Zr 24 (0, 0)) ∧ wq.heap[g4]? = some (.cells (V8 P) 24 (0, 0)) ∧ Below w.heap.size w wq)
        case atStart => exact ⟨0, rfl, by omega, rfl, Z2.out, Z4.out, HB.out⟩
        case round =>
          clear Z2 Z4 HB
          obtain ⟨j, rfl, hj, rfl, hz2, hz4, hb⟩ := hrel
          have h16 := nibN_le c
          have Z2 := Lib.hid hz2
          have Z4 := Lib.hid hz4
          have HB := Lib.hid hb
          clear hz2 hz4 hb
          by_cases hjn : j < nibN c
          · have hj16 : j < 16 := by omega
            have hjI : (j : Int) < 16 := by omega
            have hne1 : ¬ hexc j = c := (nib_test c j hj hj16).2 hjn
            have hne2 : ¬ ((hexc j).toNat : Int) = (c.toNat : Int) := fun e => hne1 (UInt8.toNat_inj.1 (by omega))
            go_upto_region 8 with (fail)
            refine wp_region_mono (w0 := _) 9 [some 15, some 16, some 17, some 18, some 19, some 20, some 21, some 22, some 23] (by kernel_rfl) (by kernel_rfl) (by kernel_rfl) (by kernel_rfl) (of_decide_eq_true (by kernel_rfl)) (by kernel_rfl) (pdRA s k j c true) ?_ ?_ ?_
            · exact pdRA_mono s k j c true
            · intro i hi o w1 b ho hbel hv hstood hsize K hK
              have hc : i = 0 ∨ i = 1 ∨ i = 2 ∨ i = 3 ∨ i = 4 ∨ i = 5 ∨ i = 6 ∨ i = 7 ∨ i = 8 := by omega
              rcases hc with rfl | rfl | rfl | rfl | rfl | rfl | rfl | rfl | rfl
              · obtain rfl : (⟨some 15, .move (Operand.tmp 6), _, _, _, _⟩ : Oper) = o := Option.some.inj ho
                refine ask_plain rfl ?_
                have e : b.eval (.tmp 6) = .int .i64 (j : Int) := (hstood 6 (by kernel_rfl)).trans rfl
                exact wp_val _ rfl (hK _ _ e (Below.refl _ _))
              · obtain rfl : (⟨some 16, .binOp BinOp.lss 3 (Operand.tmp 15) (Operand.const (Value.int IntKind.i64 16)) 3, _, _, _, _⟩ : Oper) = o := Option.some.inj ho
                refine ask_plain rfl ?_
                have e : b.eval (.tmp 15) = .int .i64 (j : Int) := hv 0 15 (by kernel_rfl) (by kernel_rfl) (of_decide_eq_true (by kernel_rfl))
                exact wp_val (.bool true) (by simp only [execOp, e]; simp [go_sem, hjI]) (hK _ _ rfl (Below.refl _ _))
              · obtain rfl : (⟨some 17, .move (Operand.tmp 16), _, _, _, _⟩ : Oper) = o := Option.some.inj ho
                refine ask_plain rfl ?_
                have e : b.eval (.tmp 16) = .bool true := hv 1 16 (by kernel_rfl) (by kernel_rfl) (of_decide_eq_true (by kernel_rfl))
                exact wp_val _ rfl (hK _ _ e (Below.refl _ _))
              · obtain rfl : (⟨some 18, .move (Operand.tmp 6), _, _, _, _⟩ : Oper) = o := Option.some.inj ho
                have hgd := hv 2 17 (by kernel_rfl) (by kernel_rfl) (of_decide_eq_true (by kernel_rfl))
                refine ask_yes 2 17 true rfl (by kernel_rfl) (by rw [hsize]; exact (of_decide_eq_true (by kernel_rfl))) hgd ?_
                have e : b.eval (.tmp 6) = .int .i64 (j : Int) := (hstood 6 (by kernel_rfl)).trans rfl
                exact wp_val _ rfl (hK _ _ e (Below.refl _ _))
              · obtain rfl : (⟨some 19, .index 9 (Operand.const (Value.string { data := #[48, 49, 50, 51, 52, 53, 54, 55, 56, 57, 97, 98, 99, 100, 101, 102] })) (Operand.tmp 18), _, _, _, _⟩ : Oper) = o := Option.some.inj ho
                have hgd := hv 2 17 (by kernel_rfl) (by kernel_rfl) (of_decide_eq_true (by kernel_rfl))
                refine ask_yes 2 17 true rfl (by kernel_rfl) (by rw [hsize]; exact (of_decide_eq_true (by kernel_rfl))) hgd ?_
                have e : b.eval (.tmp 18) = .int .i64 (j : Int) := hv 3 18 (by kernel_rfl) (by kernel_rfl) (of_decide_eq_true (by kernel_rfl))
                exact wp_val (.int .u8 ((hexc j).toNat : Int)) (by simp only [execOp, e]; exact hexi j hj16 w1) (hK _ _ rfl (Below.refl _ _))
              · obtain rfl : (⟨some 20, .move (Operand.tmp 0), _, _, _, _⟩ : Oper) = o := Option.some.inj ho
                have hgd := hv 2 17 (by kernel_rfl) (by kernel_rfl) (of_decide_eq_true (by kernel_rfl))
                refine ask_yes 2 17 true rfl (by kernel_rfl) (by rw [hsize]; exact (of_decide_eq_true (by kernel_rfl))) hgd ?_
                have e : b.eval (.tmp 0) = .string s := (hstood 0 (by kernel_rfl)).trans rfl
                exact wp_val _ rfl (hK _ _ e (Below.refl _ _))
              · obtain rfl : (⟨some 21, .move (Operand.tmp 5), _, _, _, _⟩ : Oper) = o := Option.some.inj ho
                have hgd := hv 2 17 (by kernel_rfl) (by kernel_rfl) (of_decide_eq_true (by kernel_rfl))
                refine ask_yes 2 17 true rfl (by kernel_rfl) (by rw [hsize]; exact (of_decide_eq_true (by kernel_rfl))) hgd ?_
                have e : b.eval (.tmp 5) = .int .i64 (k : Int) := (hstood 5 (by kernel_rfl)).trans rfl
                exact wp_val _ rfl (hK _ _ e (Below.refl _ _))
              · obtain rfl : (⟨some 22, .index 9 (Operand.tmp 20) (Operand.tmp 21), _, _, _, _⟩ : Oper) = o := Option.some.inj ho
                have hgd := hv 2 17 (by kernel_rfl) (by kernel_rfl) (of_decide_eq_true (by kernel_rfl))
                refine ask_yes 2 17 true rfl (by kernel_rfl) (by rw [hsize]; exact (of_decide_eq_true (by kernel_rfl))) hgd ?_
                have e1 : b.eval (.tmp 20) = .string s := hv 5 20 (by kernel_rfl) (by kernel_rfl) (of_decide_eq_true (by kernel_rfl))
                have e2 : b.eval (.tmp 21) = .int .i64 (k : Int) := hv 6 21 (by kernel_rfl) (by kernel_rfl) (of_decide_eq_true (by kernel_rfl))
                exact wp_val (.int .u8 (c.toNat : Int)) (by simp only [execOp, e1, e2, Sem.run_bind, HI.out, Result.andThen]; rfl) (hK _ _ rfl (Below.refl _ _))
              · obtain rfl : (⟨some 23, .binOp BinOp.neq 5 (Operand.tmp 19) (Operand.tmp 22) 5, _, _, _, _⟩ : Oper) = o := Option.some.inj ho
                have hgd := hv 2 17 (by kernel_rfl) (by kernel_rfl) (of_decide_eq_true (by kernel_rfl))
                refine ask_yes 2 17 true rfl (by kernel_rfl) (by rw [hsize]; exact (of_decide_eq_true (by kernel_rfl))) hgd ?_
                have e1 : b.eval (.tmp 19) = .int .u8 ((hexc j).toNat : Int) := hv 4 19 (by kernel_rfl) (by kernel_rfl) (of_decide_eq_true (by kernel_rfl))
                have e2 : b.eval (.tmp 22) = .int .u8 (c.toNat : Int) := hv 7 22 (by kernel_rfl) (by kernel_rfl) (of_decide_eq_true (by kernel_rfl))
                exact wp_val (.bool true) (by simp only [execOp, e1, e2]; simp [go_sem, hne2]) (hK _ _ rfl (Below.refl _ _))
            · intro vs w3 hp hb3
              have v0 : vs 0 = .int .i64 (j : Int) := hp 0 (by decide)
              have v1 : vs 1 = .bool true := hp 1 (by decide)
              have v2 : vs 2 = .bool true := hp 2 (by decide)
              have v3 : vs 3 = .int .i64 (j : Int) := hp 3 (by decide)
              have v4 : vs 4 = .int .u8 ((hexc j).toNat : Int) := hp 4 (by decide)
              have v5 : vs 5 = .string s := hp 5 (by decide)
              have v6 : vs 6 = .int .i64 (k : Int) := hp 6 (by decide)
              have v7 : vs 7 = .int .u8 (c.toNat : Int) := hp 7 (by decide)
              have v8 : vs 8 = .bool true := hp 8 (by decide)
              have z23 := keepH hb3 Z2.out
              have z43 := keepH hb3 Z4.out
              have HB3 := Lib.hid (HB.out.trans (hb3.mono HB.out.size))
              change wpList _ _ _ [_] _ _
              simp only [putD, Act.put, List.setIfInBounds_toArray, List.set_cons_zero, List.set_cons_succ, v0, v1, v2, v3, v4, v5, v6, v7, v8]
              clear v0 v1 v2 v3 v4 v5 v6 v7 v8 hp hb3 Z2 Z4 HB
              have Z23 := Lib.hid z23
              have Z43 := Lib.hid z43
              clear z23 z43
              go_wp2
              go_roundg (16 - (j + 1))
              case measure => omega
              case rel => exact ⟨j + 1, rfl, by omega, by go_num, Z23.out, Z43.out, HB3.out⟩
          · by_cases hj16 : j < 16
            · have hjI : (j : Int) < 16 := by omega
              have hjc : j = nibN c := by omega
              have hne1 : hexc j = c := by
                have h := nib_test c j hj hj16
                by_cases e : hexc j = c
                · exact e
                · exact absurd (h.1 e) hjn
              have hne2 : ((hexc j).toNat : Int) = (c.toNat : Int) := by rw [hne1]
              go_upto_region 8 with (fail)
              refine wp_region_mono (w0 := _) 9 [some 15, some 16, some 17, some 18, some 19, some 20, some 21, some 22, some 23] (by kernel_rfl) (by kernel_rfl) (by kernel_rfl) (by kernel_rfl) (of_decide_eq_true (by kernel_rfl)) (by kernel_rfl) (pdRA s k j c false) ?_ ?_ ?_
              · exact pdRA_mono s k j c false
              · intro i hi o w1 b ho hbel hv hstood hsize K hK
                have hc : i = 0 ∨ i = 1 ∨ i = 2 ∨ i = 3 ∨ i = 4 ∨ i = 5 ∨ i = 6 ∨ i = 7 ∨ i = 8 := by omega
                rcases hc with rfl | rfl | rfl | rfl | rfl | rfl | rfl | rfl | rfl
                · obtain rfl : (⟨some 15, .move (Operand.tmp 6), _, _, _, _⟩ : Oper) = o := Option.some.inj ho
                  refine ask_plain rfl ?_
                  have e : b.eval (.tmp 6) = .int .i64 (j : Int) := (hstood 6 (by kernel_rfl)).trans rfl
                  exact wp_val _ rfl (hK _ _ e (Below.refl _ _))
                · obtain rfl : (⟨some 16, .binOp BinOp.lss 3 (Operand.tmp 15) (Operand.const (Value.int IntKind.i64 16)) 3, _, _, _, _⟩ : Oper) = o := Option.some.inj ho
                  refine ask_plain rfl ?_
                  have e : b.eval (.tmp 15) = .int .i64 (j : Int) := hv 0 15 (by kernel_rfl) (by kernel_rfl) (of_decide_eq_true (by kernel_rfl))
                  exact wp_val (.bool true) (by simp only [execOp, e]; simp [go_sem, hjI]) (hK _ _ rfl (Below.refl _ _))
                · obtain rfl : (⟨some 17, .move (Operand.tmp 16), _, _, _, _⟩ : Oper) = o := Option.some.inj ho
                  refine ask_plain rfl ?_
                  have e : b.eval (.tmp 16) = .bool true := hv 1 16 (by kernel_rfl) (by kernel_rfl) (of_decide_eq_true (by kernel_rfl))
                  exact wp_val _ rfl (hK _ _ e (Below.refl _ _))
                · obtain rfl : (⟨some 18, .move (Operand.tmp 6), _, _, _, _⟩ : Oper) = o := Option.some.inj ho
                  have hgd := hv 2 17 (by kernel_rfl) (by kernel_rfl) (of_decide_eq_true (by kernel_rfl))
                  refine ask_yes 2 17 true rfl (by kernel_rfl) (by rw [hsize]; exact (of_decide_eq_true (by kernel_rfl))) hgd ?_
                  have e : b.eval (.tmp 6) = .int .i64 (j : Int) := (hstood 6 (by kernel_rfl)).trans rfl
                  exact wp_val _ rfl (hK _ _ e (Below.refl _ _))
                · obtain rfl : (⟨some 19, .index 9 (Operand.const (Value.string { data := #[48, 49, 50, 51, 52, 53, 54, 55, 56, 57, 97, 98, 99, 100, 101, 102] })) (Operand.tmp 18), _, _, _, _⟩ : Oper) = o := Option.some.inj ho
                  have hgd := hv 2 17 (by kernel_rfl) (by kernel_rfl) (of_decide_eq_true (by kernel_rfl))
                  refine ask_yes 2 17 true rfl (by kernel_rfl) (by rw [hsize]; exact (of_decide_eq_true (by kernel_rfl))) hgd ?_
                  have e : b.eval (.tmp 18) = .int .i64 (j : Int) := hv 3 18 (by kernel_rfl) (by kernel_rfl) (of_decide_eq_true (by kernel_rfl))
                  exact wp_val (.int .u8 ((hexc j).toNat : Int)) (by simp only [execOp, e]; exact hexi j hj16 w1) (hK _ _ rfl (Below.refl _ _))
                · obtain rfl : (⟨some 20, .move (Operand.tmp 0), _, _, _, _⟩ : Oper) = o := Option.some.inj ho
                  have hgd := hv 2 17 (by kernel_rfl) (by kernel_rfl) (of_decide_eq_true (by kernel_rfl))
                  refine ask_yes 2 17 true rfl (by kernel_rfl) (by rw [hsize]; exact (of_decide_eq_true (by kernel_rfl))) hgd ?_
                  have e : b.eval (.tmp 0) = .string s := (hstood 0 (by kernel_rfl)).trans rfl
                  exact wp_val _ rfl (hK _ _ e (Below.refl _ _))
                · obtain rfl : (⟨some 21, .move (Operand.tmp 5), _, _, _, _⟩ : Oper) = o := Option.some.inj ho
                  have hgd := hv 2 17 (by kernel_rfl) (by kernel_rfl) (of_decide_eq_true (by kernel_rfl))
                  refine ask_yes 2 17 true rfl (by kernel_rfl) (by rw [hsize]; exact (of_decide_eq_true (by kernel_rfl))) hgd ?_
                  have e : b.eval (.tmp 5) = .int .i64 (k : Int) := (hstood 5 (by kernel_rfl)).trans rfl
                  exact wp_val _ rfl (hK _ _ e (Below.refl _ _))
                · obtain rfl : (⟨some 22, .index 9 (Operand.tmp 20) (Operand.tmp 21), _, _, _, _⟩ : Oper) = o := Option.some.inj ho
                  have hgd := hv 2 17 (by kernel_rfl) (by kernel_rfl) (of_decide_eq_true (by kernel_rfl))
                  refine ask_yes 2 17 true rfl (by kernel_rfl) (by rw [hsize]; exact (of_decide_eq_true (by kernel_rfl))) hgd ?_
                  have e1 : b.eval (.tmp 20) = .string s := hv 5 20 (by kernel_rfl) (by kernel_rfl) (of_decide_eq_true (by kernel_rfl))
                  have e2 : b.eval (.tmp 21) = .int .i64 (k : Int) := hv 6 21 (by kernel_rfl) (by kernel_rfl) (of_decide_eq_true (by kernel_rfl))
                  exact wp_val (.int .u8 (c.toNat : Int)) (by simp only [execOp, e1, e2, Sem.run_bind, HI.out, Result.andThen]; rfl) (hK _ _ rfl (Below.refl _ _))
                · obtain rfl : (⟨some 23, .binOp BinOp.neq 5 (Operand.tmp 19) (Operand.tmp 22) 5, _, _, _, _⟩ : Oper) = o := Option.some.inj ho
                  have hgd := hv 2 17 (by kernel_rfl) (by kernel_rfl) (of_decide_eq_true (by kernel_rfl))
                  refine ask_yes 2 17 true rfl (by kernel_rfl) (by rw [hsize]; exact (of_decide_eq_true (by kernel_rfl))) hgd ?_
                  have e1 : b.eval (.tmp 19) = .int .u8 ((hexc j).toNat : Int) := hv 4 19 (by kernel_rfl) (by kernel_rfl) (of_decide_eq_true (by kernel_rfl))
                  have e2 : b.eval (.tmp 22) = .int .u8 (c.toNat : Int) := hv 7 22 (by kernel_rfl) (by kernel_rfl) (of_decide_eq_true (by kernel_rfl))
                  exact wp_val (.bool false) (by simp only [execOp, e1, e2]; simp [go_sem, hne2]) (hK _ _ rfl (Below.refl _ _))
              · intro vs w3 hp hb3
                have v0 : vs 0 = .int .i64 (j : Int) := hp 0 (by decide)
                have v1 : vs 1 = .bool true := hp 1 (by decide)
                have v2 : vs 2 = .bool true := hp 2 (by decide)
                have v3 : vs 3 = .int .i64 (j : Int) := hp 3 (by decide)
                have v4 : vs 4 = .int .u8 ((hexc j).toNat : Int) := hp 4 (by decide)
                have v5 : vs 5 = .string s := hp 5 (by decide)
                have v6 : vs 6 = .int .i64 (k : Int) := hp 6 (by decide)
                have v7 : vs 7 = .int .u8 (c.toNat : Int) := hp 7 (by decide)
                have v8 : vs 8 = .bool false := hp 8 (by decide)
                have z23 := keepH hb3 Z2.out
                have z43 := keepH hb3 Z4.out
                have HB3 := Lib.hid (HB.out.trans (hb3.mono HB.out.size))
                change wpList _ _ _ [_] _ _
                simp only [putD, Act.put, List.setIfInBounds_toArray, List.set_cons_zero, List.set_cons_succ, v0, v1, v2, v3, v4, v5, v6, v7, v8]
                clear v0 v1 v2 v3 v4 v5 v6 v7 v8 hp hb3 Z2 Z4 HB
                have hst := HST.out (fun q hq => by
                  by_cases e : q = k
                  · rw [e, HC.out]; omega
                  · exact HNN.out q (by omega))
                rw [← hjc] at hst
                have hfl := HFL.out
                obtain ⟨h, hh⟩ : ∃ h, k / 2 = h := ⟨_, rfl⟩
                rw [hh] at hst
                have hh32 : h < 32 := by omega
                have q4 : w3.cell? ⟨g4, h, none⟩ = some (.int .u8 ((P.getD h 0).toNat : Int)) := by rw [Joins.cell_of_block z43]; exact V8_at _ h (by omega)
                have f4 := fr_of z43 h
                have hyl := (P.getD h 0).isLt
                obtain ⟨y, hy⟩ : ∃ y, (P.getD h 0).toNat = y := ⟨_, rfl⟩
                rw [hy] at q4 hst hyl
                obtain ⟨z, hz⟩ : ∃ z, y * 16 % 256 = z := ⟨_, rfl⟩
                have hz2 : z ≤ 240 := by omega
                rw [hz] at hst
                have hset := heap_setCell z43 h (.int .u8 ((BitVec.ofNat 8 (z + j)).toNat : Int))
                rw [V8_set, hst] at hset
                rw [show ((BitVec.ofNat 8 (z + j)).toNat : Int) = (z : Int) + (j : Int) by simp; omega] at hset
                have Z4' := Lib.hid hset
                have hne : w.heap.size ≠ g4 := by have := HG4.out; omega
                have Z2' := Lib.hid (heap_set_other (g := g4) (i := h) (u := .int .u8 ((z : Int) + (j : Int))) z23 (by omega))
                have HB4 := Lib.hid (HB3.out.setCell (p := ⟨g4, h, none⟩) (by have := HG4.out; simp; omega) (.int .u8 ((z : Int) + (j : Int))))
                have HNN2 := Lib.hid (show ∀ q, q < k + 1 → nibN (l.getD q 0) < 16 from fun q hq => by
                  by_cases e : q = k
                  · rw [e, HC.out]; omega
                  · exact HNN.out q (by omega))
                have e1 : (k : Int) / 2 = (h : Int) := by omega
                have e2 : (k : Int).tdiv 2 = (h : Int) := by rw [Int.tdiv_eq_ediv_of_nonneg (by omega)]; exact e1
                have e3 : (y : Int) * 16 % 256 = (z : Int) := by omega
                have hhI : (h : Int) < 32 := by omega
                have hjd : decide ((j : Int) = 16) = false := by simp; omega
                have hjd2 : ((j : Int) == 16) = false := by simp; omega
                clear hst hset z43 z23 hfl hy hz hh hjc hne1 hjn hj
                go_wp2
                go_roundg (64 - (k + 1))
                case measure => omega
                case rel => exact ⟨k + 1, rfl, by omega, by go_num, Z2'.out, Z4'.out, HB4.out, HNN2.out⟩
            · have h16c : nibN c = 16 := by omega
              obtain rfl : j = 16 := by omega
              have hno : okText l = false := HNO.out ((nibN_16 c).1 h16c)
              have HD := Lib.hid (show V8 (readD l) = Zr ∧ readE l = 1 by unfold readD readE; rw [hno]; exact ⟨HZr.out, rfl⟩)
              clear hno h16c hj hjn h16
              go_upto_region 8 with (fail)
              refine wp_region_mono (w0 := _) 9 [some 15, some 16, some 17, some 18, some 19, some 20, some 21, some 22, some 23] (by kernel_rfl) (by kernel_rfl) (by kernel_rfl) (by kernel_rfl) (of_decide_eq_true (by kernel_rfl)) (by kernel_rfl) pdRB ?_ ?_ ?_
              · exact pdRB_mono 
              · intro i hi o w1 b ho hbel hv hstood hsize K hK
                have hc : i = 0 ∨ i = 1 ∨ i = 2 ∨ i = 3 ∨ i = 4 ∨ i = 5 ∨ i = 6 ∨ i = 7 ∨ i = 8 := by omega
                rcases hc with rfl | rfl | rfl | rfl | rfl | rfl | rfl | rfl | rfl
                · obtain rfl : (⟨some 15, .move (Operand.tmp 6), _, _, _, _⟩ : Oper) = o := Option.some.inj ho
                  refine ask_plain rfl ?_
                  have e : b.eval (.tmp 6) = .int .i64 16 := (hstood 6 (by kernel_rfl)).trans rfl
                  exact wp_val _ rfl (hK _ _ e (Below.refl _ _))
                · obtain rfl : (⟨some 16, .binOp BinOp.lss 3 (Operand.tmp 15) (Operand.const (Value.int IntKind.i64 16)) 3, _, _, _, _⟩ : Oper) = o := Option.some.inj ho
                  refine ask_plain rfl ?_
                  have e : b.eval (.tmp 15) = .int .i64 16 := hv 0 15 (by kernel_rfl) (by kernel_rfl) (of_decide_eq_true (by kernel_rfl))
                  exact wp_val (.bool false) (by simp only [execOp, e]; rfl) (hK _ _ rfl (Below.refl _ _))
                · obtain rfl : (⟨some 17, .move (Operand.tmp 16), _, _, _, _⟩ : Oper) = o := Option.some.inj ho
                  refine ask_plain rfl ?_
                  have e : b.eval (.tmp 16) = .bool false := hv 1 16 (by kernel_rfl) (by kernel_rfl) (of_decide_eq_true (by kernel_rfl))
                  exact wp_val _ rfl (hK _ _ e (Below.refl _ _))
                · obtain rfl : (⟨some 18, .move (Operand.tmp 6), _, _, _, _⟩ : Oper) = o := Option.some.inj ho
                  have hgd := hv 2 17 (by kernel_rfl) (by kernel_rfl) (of_decide_eq_true (by kernel_rfl))
                  refine ask_no 2 17 true false rfl (by kernel_rfl) (by rw [hsize]; exact (of_decide_eq_true (by kernel_rfl))) hgd (by decide) ?_
                  exact hK _ _ rfl (Below.refl _ _)
                · obtain rfl : (⟨some 19, .index 9 (Operand.const (Value.string { data := #[48, 49, 50, 51, 52, 53, 54, 55, 56, 57, 97, 98, 99, 100, 101, 102] })) (Operand.tmp 18), _, _, _, _⟩ : Oper) = o := Option.some.inj ho
                  have hgd := hv 2 17 (by kernel_rfl) (by kernel_rfl) (of_decide_eq_true (by kernel_rfl))
                  refine ask_no 2 17 true false rfl (by kernel_rfl) (by rw [hsize]; exact (of_decide_eq_true (by kernel_rfl))) hgd (by decide) ?_
                  exact hK _ _ rfl (Below.refl _ _)
                · obtain rfl : (⟨some 20, .move (Operand.tmp 0), _, _, _, _⟩ : Oper) = o := Option.some.inj ho
                  have hgd := hv 2 17 (by kernel_rfl) (by kernel_rfl) (of_decide_eq_true (by kernel_rfl))
                  refine ask_no 2 17 true false rfl (by kernel_rfl) (by rw [hsize]; exact (of_decide_eq_true (by kernel_rfl))) hgd (by decide) ?_
                  exact hK _ _ rfl (Below.refl _ _)
                · obtain rfl : (⟨some 21, .move (Operand.tmp 5), _, _, _, _⟩ : Oper) = o := Option.some.inj ho
                  have hgd := hv 2 17 (by kernel_rfl) (by kernel_rfl) (of_decide_eq_true (by kernel_rfl))
                  refine ask_no 2 17 true false rfl (by kernel_rfl) (by rw [hsize]; exact (of_decide_eq_true (by kernel_rfl))) hgd (by decide) ?_
                  exact hK _ _ rfl (Below.refl _ _)
                · obtain rfl : (⟨some 22, .index 9 (Operand.tmp 20) (Operand.tmp 21), _, _, _, _⟩ : Oper) = o := Option.some.inj ho
                  have hgd := hv 2 17 (by kernel_rfl) (by kernel_rfl) (of_decide_eq_true (by kernel_rfl))
                  refine ask_no 2 17 true false rfl (by kernel_rfl) (by rw [hsize]; exact (of_decide_eq_true (by kernel_rfl))) hgd (by decide) ?_
                  exact hK _ _ rfl (Below.refl _ _)
                · obtain rfl : (⟨some 23, .binOp BinOp.neq 5 (Operand.tmp 19) (Operand.tmp 22) 5, _, _, _, _⟩ : Oper) = o := Option.some.inj ho
                  have hgd := hv 2 17 (by kernel_rfl) (by kernel_rfl) (of_decide_eq_true (by kernel_rfl))
                  refine ask_no 2 17 true false rfl (by kernel_rfl) (by rw [hsize]; exact (of_decide_eq_true (by kernel_rfl))) hgd (by decide) ?_
                  exact hK _ _ rfl (Below.refl _ _)
              · intro vs w3 hp hb3
                have v0 : vs 0 = .int .i64 16 := hp 0 (by decide)
                have v1 : vs 1 = .bool false := hp 1 (by decide)
                have v2 : vs 2 = .bool false := hp 2 (by decide)
                have v3 : vs 3 = undef := hp 3 (by decide)
                have v4 : vs 4 = undef := hp 4 (by decide)
                have v5 : vs 5 = undef := hp 5 (by decide)
                have v6 : vs 6 = undef := hp 6 (by decide)
                have v7 : vs 7 = undef := hp 7 (by decide)
                have v8 : vs 8 = undef := hp 8 (by decide)
                have Z23 := Lib.hid (keepH hb3 Z2.out)
                have HB3 := Lib.hid (HB.out.trans (hb3.mono HB.out.size))
                change wpList _ _ _ [_] _ _
                simp only [putD, Act.put, List.setIfInBounds_toArray, List.set_cons_zero, List.set_cons_succ, v0, v1, v2, v3, v4, v5, v6, v7, v8]
                clear v0 v1 v2 v3 v4 v5 v6 v7 v8 hp hb3 Z2 Z4 HB
                go_wp2_with (first | ((with_reducible show wpList _ _ _ (⟨none, .store 24 (.tmp 2) (.tmp 29), _, _, _, _⟩ :: _) _ _); rw [← HZ.out]; refine wpList_store_row rfl 24 (.tmp 2) (.tmp 29) rfl w.heap.size Zr rfl rfl 24 _ Z23.out HSZ.out rfl hone ?_) | fail)
                have gz := setRow_heap w3 w.heap.size _ Zr _ _ Z23.out
                have hrv := run_loadVar_row (P := Try.prog) (w3.setRow w.heap.size Zr) w.heap.size 24 24 Zr (0, 0) _ gz Try.underlying24 rfl HSZ.out
                have BB : Below w.heap.size w (w3.setRow w.heap.size Zr) := below_setRow _ _ HB3.out (Nat.le_refl _)
                exact bodyPost_ret (v := .tuple #[.agg Zr, .int .i64 1]) (by simp [results, Try.results37, asAddr, hrv, Act.put]) rfl ⟨by rw [HD.out.1, HD.out.2], BB⟩
      · obtain rfl : k = 64 := by omega
        have hok : okText l = true := ok_of l HLL2.out (fun k hk => by have := hnn k hk; have h2 := nibN_16 (l.getD k 0); omega)
        have hz4' := hz4
        rw [halfL_all] at hz4'
        have HD := Lib.hid (show readD l = pairsL l 32 ∧ readE l = 0 by unfold readD readE; rw [if_pos hok, if_pos hok]; exact ⟨rfl, rfl⟩)
        have hpl : (pairsL l 32).length = 32 := by simp [pairsL]
        obtain ⟨Y, hY⟩ : ∃ Y, pairsL l 32 = Y := ⟨_, rfl⟩
        rw [hY] at hz4' HD hpl
        have HSY := Lib.hid (show (Try.prog.info? 24).map (·.size) = some (V8 Y).size by rw [V8_size, hpl]; kernel_rfl)
        have HZY := Lib.hid (show Zr.size = (V8 Y).size by rw [V8_size, hpl]; exact HZS.out)
        have Z2 := Lib.hid hz2
        have Z4 := Lib.hid hz4'
        have HB := Lib.hid hb
        clear hz2 hz4 hz4' hb hnn hok hY hpl
        go_wp2_with (first | ((with_reducible show wpList _ _ _ (⟨some 41, .load 24 (.tmp 4), _, _, _, _⟩ :: _) _ _); refine wpList_load_row rfl 24 (.tmp 4) rfl g4 rfl 24 (V8 Y) _ Z4.out Try.underlying24 rfl HSY.out ?_) | ((with_reducible show wpList _ _ _ (⟨none, .store 24 (.tmp 2) (.tmp 41), _, _, _, _⟩ :: _) _ _); refine wpList_store_row rfl 24 (.tmp 2) (.tmp 41) rfl w.heap.size (V8 Y) rfl rfl 24 _ Z2.out HSY.out HZY.out (V8_one _) ?_) | fail)
        have gz := setRow_heap wr w.heap.size _ (V8 Y) _ _ Z2.out
        have hrv := run_loadVar_row (P := Try.prog) (wr.setRow w.heap.size (V8 Y)) w.heap.size 24 24 (V8 Y) (0, 0) _ gz Try.underlying24 rfl HSY.out
        have BB : Below w.heap.size w (wr.setRow w.heap.size (V8 Y)) := below_setRow _ _ HB.out (Nat.le_refl _)
        exact bodyPost_ret (v := .tuple #[.agg (V8 Y), .int .i64 0]) (by simp [results, Try.results37, asAddr, hrv, Act.put]) rfl ⟨by rw [HD.out.1, HD.out.2], BB⟩
  · have hno : okText l = false := ok_len l (by rw [HLL.out]; exact h64)
    have HD := Lib.hid (show V8 (readD l) = Zr ∧ readE l = 1 by unfold readD readE; rw [hno]; exact ⟨HZr.out, rfl⟩)
    have hq : ((s.size : Int) != 64) = true := by simp; omega
    clear hno h64
    go_wp2_with (first | ((with_reducible show wpList _ _ _ (⟨some 10, .load 24 (.tmp 4), _, _, _, _⟩ :: _) _ _); refine wpList_load_row rfl 24 (.tmp 4) rfl g4 rfl 24 Zr _ Z4.out Try.underlying24 rfl HSZ.out ?_) | ((with_reducible show wpList _ _ _ (⟨none, .store 24 (.tmp 2) (.tmp 10), _, _, _, _⟩ :: _) _ _); refine wpList_store_row rfl 24 (.tmp 2) (.tmp 10) rfl w.heap.size Zr rfl rfl 24 _ Z2.out HSZ.out rfl hone ?_) | fail)
    have gz := setRow_heap W2 w.heap.size _ Zr _ _ Z2.out
    have hrv := run_loadVar_row (P := Try.prog) (W2.setRow w.heap.size Zr) w.heap.size 24 24 Zr (0, 0) _ gz Try.underlying24 rfl HSZ.out
    have BB : Below w.heap.size w (W2.setRow w.heap.size Zr) := below_setRow _ _ B2.out (Nat.le_refl _)
    exact bodyPost_ret (v := .tuple #[.agg Zr, .int .i64 1]) (by simp [results, Try.results37, asAddr, hrv, Act.put]) rfl ⟨by rw [HD.out.1, HD.out.2], BB⟩
end Go.Proofs.Ytjaakhjfpigdfaa
