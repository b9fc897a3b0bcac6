import Derived.Test.YtjaakhjfpigdfaaX6
import Derived.Test.YtjaakhjfpigdfaaV4
/-! sha.Read. -/
namespace Go.Proofs.Ytjaakhjfpigdfaa
open Go.RowKit
set_option linter.unusedVariables false
set_option linter.unusedSimpArgs false
def pdR7 (s : ByteArray) (i : Nat) (x1 x2 : UInt8) (n1 n2 : Int) : Nat → Value → World → Prop
  | 0 => fun v w => v = .string s
  | 1 => fun v w => v = .int .i64 (i : Int)
  | 2 => fun v w => v = .int .i64 (2 * (i : Int))
  | 3 => fun v w => v = .int .u8 (x1.toNat : Int)
  | 4 => fun v w => v = .int .i64 n1
  | 5 => fun v w => v = .string s
  | 6 => fun v w => v = .int .i64 (i : Int)
  | 7 => fun v w => v = .int .i64 (2 * (i : Int))
  | 8 => fun v w => v = .int .i64 (2 * (i : Int) + 1)
  | 9 => fun v w => v = .int .u8 (x2.toNat : Int)
  | 10 => fun v w => v = .int .i64 n2
  | _ => fun _ _ => True
theorem pdR7_mono (s : ByteArray) (i : Nat) (x1 x2 : UInt8) (n1 n2 : Int) : ∀ k v w w', pdR7 s i x1 x2 n1 n2 k v w → Below w.heap.size w w' → pdR7 s i x1 x2 n1 n2 k v w'
  | 0, _, _, _, h, _ => h
  | 1, _, _, _, h, _ => h
  | 2, _, _, _, h, _ => h
  | 3, _, _, _, h, _ => h
  | 4, _, _, _, h, _ => h
  | 5, _, _, _, h, _ => h
  | 6, _, _, _, h, _ => h
  | 7, _, _, _, h, _ => h
  | 8, _, _, _, h, _ => h
  | 9, _, _, _, h, _ => h
  | 10, _, _, _, h, _ => h
  | _ + 11, _, _, _, _, _ => trivial
set_option maxRecDepth 100000 in
set_option maxHeartbeats 4000000 in
theorem read_any (s : ByteArray) (w : World) (hsz : s.size ≤ 140737488351232) : Calls Try.prog 36 #[.string s] w fun e w' => e = .returned (.tuple #[.agg (V8 (readD s.data.toList)), .int .i64 (readE s.data.toList)]) ∧ Below w.heap.size w w' := by
  have hz := zeros32
  have hone := V8_one (List.replicate 32 0)
  have hz0 := fillP_zero s.data.toList
  have hzs : (V8 (List.replicate 32 0)).size = 32 := by rw [V8_size]; rfl
  obtain ⟨Zr, hZr⟩ : ∃ Z, V8 (List.replicate 32 0) = Z := ⟨_, rfl⟩
  rw [hZr] at hz hone hzs
  have HSZ := Lib.hid (show (Try.prog.info? 25).map (·.size) = some Zr.size by rw [← hZr]; kernel_rfl)
  have HZr := Lib.hid hZr
  have HZ := Lib.hid hz
  have HZS := Lib.hid hzs
  have HF0 := Lib.hid (show V8 (fillP s.data.toList 0) = Zr by rw [hz0, hZr])
  have hsl : s.data.toList.length = s.size := by simp
  have HLEN := Lib.hid hsl
  clear hZr hz hz0 hzs hsl
  have HA := Lib.hid (ba_at s)
  have hls := HLEN.out
  obtain ⟨l, hl⟩ : ∃ l, s.data.toList = l := ⟨_, rfl⟩
  rw [hl] at HF0 HA hls ⊢
  have HLL := Lib.hid hls
  clear hl HLEN hls
  go_enter Try.func36, Try.ntmps36
  go_upto_region 2 with (fail)
  rw [← HZ.out]
  obtain ⟨W2, hW2⟩ : ∃ W, (w.alloc (.cells Zr 25)).alloc (.cells Zr 25) = W := ⟨_, rfl⟩
  obtain ⟨g4, hg4⟩ : ∃ g, w.heap.size + 1 = g := ⟨_, rfl⟩
  have Z2 := Lib.hid (show W2.heap[w.heap.size]? = some (.cells Zr 25 (0, 0)) by rw [← hW2]; exact heap_old _ trivial (heap_new _ _ _ rfl))
  have Z4 := Lib.hid (show W2.heap[g4]? = some (.cells Zr 25 (0, 0)) by rw [← hW2, ← hg4]; exact heap_new _ _ _ (by simp))
  have B2 := Lib.hid (show Below w.heap.size w W2 by rw [← hW2]; exact ((Below.refl _ _).alloc (Nat.le_refl _) _).alloc (by simp) _)
  have HG4 := Lib.hid hg4
  rw [hW2, hg4]
  clear hW2 hg4
  by_cases h64 : s.size = 64
  · have hq : ((s.size : Int) != 64) = false := by rw [h64]; rfl
    have HLL2 := Lib.hid (show l.length = 64 by rw [HLL.out]; exact h64)
    clear h64
    go_upto_region 4 with (fail)
    go_wp2
    go_loopg [12] 32 (fun gk v12 wr => ∃ i : Nat, gk = 32 - i ∧ i ≤ 32 ∧ v12 = .int .i64 (i : Int) ∧ wr.heap[w.heap.size]? = some (.cells Zr 25 (0, 0)) ∧ wr.heap[g4]? = some (.cells (V8 (fillP l i)) 25 (0, 0)) ∧ Below w.heap.size w wr ∧ ∀ k, k < 2 * i → 0 ≤ nibOf (l.getD k 0))
    case atStart => exact ⟨0, rfl, by omega, rfl, Z2.out, by rw [HF0.out]; exact Z4.out, B2.out, fun k hk => by omega⟩
    case round =>
      clear Z2 Z4 B2
      obtain ⟨i, rfl, hi, rfl, hz2, hz4, hb, hnn⟩ := hrel
      by_cases hlt : i < 32
      · have hi1 := HA.out (2 * i) (by rw [HLL2.out]; omega)
        have hi2 := HA.out (2 * i + 1) (by rw [HLL2.out]; omega)
        have r1 := nib_range (l.getD (2 * i) 0)
        have r2 := nib_range (l.getD (2 * i + 1) 0)
        have hno1 := ok_no l (2 * i) (by omega)
        have hno2 := ok_no l (2 * i + 1) (by omega)
        have hpb : pairB l i = BitVec.ofNat 8 ((nibOf (l.getD (2 * i) 0)).toNat * 16 + (nibOf (l.getD (2 * i + 1) 0)).toNat) := rfl
        have hn1 : firstIdx hexS ((l.getD (2 * i) 0).toNat : Int).toNat.toUInt8 = nibOf (l.getD (2 * i) 0) := by unfold nibOf; simp
        have hn2 : firstIdx hexS ((l.getD (2 * i + 1) 0).toNat : Int).toNat.toUInt8 = nibOf (l.getD (2 * i + 1) 0) := by unfold nibOf; simp
        obtain ⟨x1, hx1⟩ : ∃ x, l.getD (2 * i) 0 = x := ⟨_, rfl⟩
        obtain ⟨x2, hx2⟩ : ∃ x, l.getD (2 * i + 1) 0 = x := ⟨_, rfl⟩
        rw [hx1] at hi1 r1 hno1 hpb hn1
        rw [hx2] at hi2 r2 hno2 hpb hn2
        obtain ⟨n1, hm1⟩ : ∃ n, nibOf x1 = n := ⟨_, rfl⟩
        obtain ⟨n2, hm2⟩ : ∃ n, nibOf x2 = n := ⟨_, rfl⟩
        rw [hm1] at r1 hno1 hpb hn1
        rw [hm2] at r2 hno2 hpb hn2
        have HX1 := Lib.hid (show nibOf (l.getD (2 * i) 0) = n1 by rw [hx1, hm1])
        have HX2 := Lib.hid (show nibOf (l.getD (2 * i + 1) 0) = n2 by rw [hx2, hm2])
        have HN1 := Lib.hid hn1
        have HN2 := Lib.hid hn2
        have HNO1 := Lib.hid hno1
        have HNO2 := Lib.hid hno2
        have HPB := Lib.hid hpb
        have HI1 := Lib.hid (fun w => str_at s (2 * i) x1 hi1 w)
        have HI2 := Lib.hid (fun w => str_at s (2 * i + 1) x2 hi2 w)
        rw [show ((2 * i : Nat) : Int) = 2 * (i : Int) by push_cast; rfl] at HI1
        rw [show ((2 * i + 1 : Nat) : Int) = 2 * (i : Int) + 1 by push_cast; rfl] at HI2
        have HW1 := Lib.hid (show IntKind.i64.wrap (2 * (i : Int)) = 2 * (i : Int) by rw [IntKind.wrap_i64]; omega)
        have HW2 := Lib.hid (show IntKind.i64.wrap (2 * (i : Int) + 1) = 2 * (i : Int) + 1 by rw [IntKind.wrap_i64]; omega)
        have Z2 := Lib.hid hz2
        have Z4 := Lib.hid hz4
        have HB := Lib.hid hb
        have HNN := Lib.hid hnn
        have hlI : (i : Int) < 32 := by omega
        clear hi1 hi2 hno1 hno2 hpb hn1 hn2 hx1 hx2 hm1 hm2 hz2 hz4 hb hnn
        go_upto_region 7 with (fail)
        refine wp_region_mono (w0 := _) 11 [some 15, some 16, some 17, some 18, some 19, some 20, some 21, some 22, some 23, some 24, some 25] (by kernel_rfl) (by kernel_rfl) (by kernel_rfl) (by kernel_rfl) (of_decide_eq_true (by kernel_rfl)) (by kernel_rfl) (pdR7 s i x1 x2 n1 n2) ?_ ?_ ?_
        · exact pdR7_mono s i x1 x2 n1 n2
        · intro i hi o w1 b ho hbel hv hstood hsize K hK
          have hc : i = 0 ∨ i = 1 ∨ i = 2 ∨ i = 3 ∨ i = 4 ∨ i = 5 ∨ i = 6 ∨ i = 7 ∨ i = 8 ∨ i = 9 ∨ i = 10 := by omega
          rcases hc with rfl | rfl | rfl | rfl | rfl | rfl | rfl | rfl | rfl | rfl | rfl
          · obtain rfl : (⟨some 15, .move (Operand.tmp 0), _, _, _, _⟩ : Oper) = o := Option.some.inj ho
            refine ask_plain rfl ?_
            have e : b.eval (.tmp 0) = .string s := (hstood 0 (by kernel_rfl)).trans rfl
            exact wp_val _ rfl (hK _ _ e (Below.refl _ _))
          · obtain rfl : (⟨some 16, .move (Operand.tmp 5), _, _, _, _⟩ : Oper) = o := Option.some.inj ho
            refine ask_plain rfl ?_
            have e : b.eval (.tmp 5) = .int .i64 (i : Int) := (hstood 5 (by kernel_rfl)).trans rfl
            exact wp_val _ rfl (hK _ _ e (Below.refl _ _))
          · obtain rfl : (⟨some 17, .binOp BinOp.mul 3 (Operand.const (Value.int IntKind.i64 2)) (Operand.tmp 16) 3, _, _, _, _⟩ : Oper) = o := Option.some.inj ho
            refine ask_plain rfl ?_
            have e : b.eval (.tmp 16) = .int .i64 (i : Int) := hv 1 16 (by kernel_rfl) (by kernel_rfl) (of_decide_eq_true (by kernel_rfl))
            exact wp_val (.int .i64 (2 * (i : Int))) (by simp only [execOp, e]; simp [go_sem, HW1.out]) (hK _ _ rfl (Below.refl _ _))
          · obtain rfl : (⟨some 18, .index 9 (Operand.tmp 15) (Operand.tmp 17), _, _, _, _⟩ : Oper) = o := Option.some.inj ho
            refine ask_plain rfl ?_
            have e1 : b.eval (.tmp 15) = .string s := hv 0 15 (by kernel_rfl) (by kernel_rfl) (of_decide_eq_true (by kernel_rfl))
            have e2 : b.eval (.tmp 17) = .int .i64 (2 * (i : Int)) := hv 2 17 (by kernel_rfl) (by kernel_rfl) (of_decide_eq_true (by kernel_rfl))
            exact wp_val (.int .u8 (x1.toNat : Int)) (by simp only [execOp, e1, e2, Sem.run_bind, HI1.out, Result.andThen]; rfl) (hK _ _ rfl (Below.refl _ _))
          · obtain rfl : (⟨some 19, .call { callee := (Callee.value (Operand.func 81)), args := #[(Operand.const (Value.string { data := #[48, 49, 50, 51, 52, 53, 54, 55, 56, 57, 97, 98, 99, 100, 101, 102] })), (Operand.tmp 18)], argTypes := #[9, 5] }, _, _, _, _⟩ : Oper) = o := Option.some.inj ho
            refine ask_plain rfl ?_
            have e1 : b.eval (.tmp 18) = .int .u8 (x1.toNat : Int) := hv 3 18 (by kernel_rfl) (by kernel_rfl) (of_decide_eq_true (by kernel_rfl))
            have hcall := idx_any hexS (x1.toNat : Int) w1
            rw [HN1.out] at hcall
            refine wp_call_fn 81 _ #[9, 5] rfl Try.f81 _ Try.func81 (by kernel_rfl) rfl #[.string hexS, .int .u8 (x1.toNat : Int)] (by simp [e1]; rfl) (hcall.mono ?_)
            rintro e w2 ⟨rfl, rfl⟩
            exact ⟨_, rfl, hK _ _ rfl (Below.refl _ _)⟩
          · obtain rfl : (⟨some 20, .move (Operand.tmp 0), _, _, _, _⟩ : Oper) = o := Option.some.inj ho
            refine ask_plain rfl ?_
            have e : b.eval (.tmp 0) = .string s := (hstood 0 (by kernel_rfl)).trans rfl
            exact wp_val _ rfl (hK _ _ e (Below.refl _ _))
          · obtain rfl : (⟨some 21, .move (Operand.tmp 5), _, _, _, _⟩ : Oper) = o := Option.some.inj ho
            refine ask_plain rfl ?_
            have e : b.eval (.tmp 5) = .int .i64 (i : Int) := (hstood 5 (by kernel_rfl)).trans rfl
            exact wp_val _ rfl (hK _ _ e (Below.refl _ _))
          · obtain rfl : (⟨some 22, .binOp BinOp.mul 3 (Operand.const (Value.int IntKind.i64 2)) (Operand.tmp 21) 3, _, _, _, _⟩ : Oper) = o := Option.some.inj ho
            refine ask_plain rfl ?_
            have e : b.eval (.tmp 21) = .int .i64 (i : Int) := hv 6 21 (by kernel_rfl) (by kernel_rfl) (of_decide_eq_true (by kernel_rfl))
            exact wp_val (.int .i64 (2 * (i : Int))) (by simp only [execOp, e]; simp [go_sem, HW1.out]) (hK _ _ rfl (Below.refl _ _))
          · obtain rfl : (⟨some 23, .binOp BinOp.add 3 (Operand.tmp 22) (Operand.const (Value.int IntKind.i64 1)) 3, _, _, _, _⟩ : Oper) = o := Option.some.inj ho
            refine ask_plain rfl ?_
            have e : b.eval (.tmp 22) = .int .i64 (2 * (i : Int)) := hv 7 22 (by kernel_rfl) (by kernel_rfl) (of_decide_eq_true (by kernel_rfl))
            exact wp_val (.int .i64 (2 * (i : Int) + 1)) (by simp only [execOp, e]; simp [go_sem, HW2.out]) (hK _ _ rfl (Below.refl _ _))
          · obtain rfl : (⟨some 24, .index 9 (Operand.tmp 20) (Operand.tmp 23), _, _, _, _⟩ : Oper) = o := Option.some.inj ho
            refine ask_plain rfl ?_
            have e1 : b.eval (.tmp 20) = .string s := hv 5 20 (by kernel_rfl) (by kernel_rfl) (of_decide_eq_true (by kernel_rfl))
            have e2 : b.eval (.tmp 23) = .int .i64 (2 * (i : Int) + 1) := hv 8 23 (by kernel_rfl) (by kernel_rfl) (of_decide_eq_true (by kernel_rfl))
            exact wp_val (.int .u8 (x2.toNat : Int)) (by simp only [execOp, e1, e2, Sem.run_bind, HI2.out, Result.andThen]; rfl) (hK _ _ rfl (Below.refl _ _))
          · obtain rfl : (⟨some 25, .call { callee := (Callee.value (Operand.func 81)), args := #[(Operand.const (Value.string { data := #[48, 49, 50, 51, 52, 53, 54, 55, 56, 57, 97, 98, 99, 100, 101, 102] })), (Operand.tmp 24)], argTypes := #[9, 5] }, _, _, _, _⟩ : Oper) = o := Option.some.inj ho
            refine ask_plain rfl ?_
            have e1 : b.eval (.tmp 24) = .int .u8 (x2.toNat : Int) := hv 9 24 (by kernel_rfl) (by kernel_rfl) (of_decide_eq_true (by kernel_rfl))
            have hcall := idx_any hexS (x2.toNat : Int) w1
            rw [HN2.out] at hcall
            refine wp_call_fn 81 _ #[9, 5] rfl Try.f81 _ Try.func81 (by kernel_rfl) rfl #[.string hexS, .int .u8 (x2.toNat : Int)] (by simp [e1]; rfl) (hcall.mono ?_)
            rintro e w2 ⟨rfl, rfl⟩
            exact ⟨_, rfl, hK _ _ rfl (Below.refl _ _)⟩
        · intro vs w3 hp hb3
          have v0 : vs 0 = .string s := hp 0 (by decide)
          have v1 : vs 1 = .int .i64 (i : Int) := hp 1 (by decide)
          have v2 : vs 2 = .int .i64 (2 * (i : Int)) := hp 2 (by decide)
          have v3 : vs 3 = .int .u8 (x1.toNat : Int) := hp 3 (by decide)
          have v4 : vs 4 = .int .i64 n1 := hp 4 (by decide)
          have v5 : vs 5 = .string s := hp 5 (by decide)
          have v6 : vs 6 = .int .i64 (i : Int) := hp 6 (by decide)
          have v7 : vs 7 = .int .i64 (2 * (i : Int)) := hp 7 (by decide)
          have v8 : vs 8 = .int .i64 (2 * (i : Int) + 1) := hp 8 (by decide)
          have v9 : vs 9 = .int .u8 (x2.toNat : Int) := hp 9 (by decide)
          have v10 : vs 10 = .int .i64 n2 := hp 10 (by decide)
          have z23 := keepH hb3 Z2.out
          have z43 := keepH hb3 Z4.out
          have HB3 := Lib.hid (HB.out.trans (hb3.mono HB.out.size))
          change wpList _ _ _ [_, _] _ _
          simp only [putD, Act.put, List.setIfInBounds_toArray, List.set_cons_zero, List.set_cons_succ, v0, v1, v2, v3, v4, v5, v6, v7, v8, v9, v10]
          clear v0 v1 v2 v3 v4 v5 v6 v7 v8 v9 v10 hp hb3 Z2 Z4 HB HI1 HI2 HN1 HN2 HW1 HW2
          by_cases hneg : n1 < 0 ∨ n2 < 0
          · have hno : okText l = false := by
              rcases hneg with h | h
              · exact HNO1.out h
              · exact HNO2.out h
            have HD := Lib.hid (show V8 (readD l) = Zr ∧ readE l = 1 by unfold readD readE; rw [hno]; exact ⟨HZr.out, rfl⟩)
            have hmn : min n1 n2 < 0 := by omega
            have Z23 := Lib.hid z23
            clear hno hneg z23 z43
            go_wp2_with (first | ((with_reducible show wpList _ _ _ (⟨none, .store 25 (.tmp 2) (.tmp 30), _, _, _, _⟩ :: _) _ _); rw [← HZ.out]; refine wpList_store_row rfl 25 (.tmp 2) (.tmp 30) rfl w.heap.size Zr rfl rfl 25 _ Z23.out HSZ.out rfl hone ?_) | fail)
            all_goals
              have gz := setRow_heap w3 w.heap.size _ Zr _ _ Z23.out
              have hrv := run_loadVar_row (P := Try.prog) (w3.setRow w.heap.size Zr) w.heap.size 25 25 Zr (0, 0) _ gz Try.underlying25 rfl HSZ.out
              have BB : Below w.heap.size w (w3.setRow w.heap.size Zr) := below_setRow _ _ HB3.out (Nat.le_refl _)
              exact bodyPost_ret (v := .tuple #[.agg Zr, .int .i64 1]) (by simp [results, Try.results36, asAddr, hrv, Act.put]) rfl ⟨by rw [HD.out.1, HD.out.2], BB⟩
          · obtain ⟨a, rfl⟩ : ∃ a : Nat, n1 = (a : Int) := ⟨n1.toNat, by omega⟩
            obtain ⟨b, rfl⟩ : ∃ b : Nat, n2 = (b : Int) := ⟨n2.toNat, by omega⟩
            have ha : a < 16 := by omega
            have hb' : b < 16 := by omega
            have hmn : ¬ min (a : Int) (b : Int) < 0 := by omega
            have hor := or_nib a b ha hb'
            have hfl := fillP_len l i
            have hfs := fillP_step l i
            rw [HPB.out, show (a : Int).toNat * 16 + (b : Int).toNat = a * 16 + b by omega] at hfs
            obtain ⟨P, hP⟩ : ∃ P, fillP l i = P := ⟨_, rfl⟩
            rw [hP] at z43 hfl hfs
            have q4 : w3.cell? ⟨g4, i, none⟩ = some (.int .u8 ((P.getD i 0).toNat : Int)) := by rw [Joins.cell_of_block z43]; exact V8_at _ i (by omega)
            have f4 := fr_of z43 i
            have hst := heap_setCell z43 i (.int .u8 ((BitVec.ofNat 8 (a * 16 + b)).toNat : Int))
            rw [V8_set, hfs] at hst
            rw [show ((BitVec.ofNat 8 (a * 16 + b)).toNat : Int) = ((a * 16 + b : Nat) : Int) by simp; omega] at hst
            have Z4' := Lib.hid hst
            have hne : w.heap.size ≠ g4 := by have := HG4.out; omega
            have Z2' := Lib.hid (heap_set_other (g := g4) (i := i) (u := .int .u8 ((a * 16 + b : Nat) : Int)) z23 (by omega))
            have HB4 := Lib.hid (HB3.out.setCell (p := ⟨g4, i, none⟩) (by have := HG4.out; simp; omega) (.int .u8 ((a * 16 + b : Nat) : Int)))
            rw [show ((a * 16 + b : Nat) : Int) = (a : Int) * 16 + (b : Int) by push_cast; rfl] at Z4' Z2' HB4
            clear hneg hst hfs hfl z43 z23 hP
            go_wp2
            all_goals
              go_roundg (32 - (i + 1))
              case measure => omega
              case rel =>
                refine ⟨i + 1, rfl, by omega, by go_num, Z2'.out, Z4'.out, HB4.out, fun k hk => ?_⟩
                by_cases h1 : k < 2 * i
                · exact HNN.out k h1
                · by_cases h2 : k = 2 * i
                  · rw [h2, HX1.out]; omega
                  · rw [show k = 2 * i + 1 by omega, HX2.out]; omega
      · obtain rfl : i = 32 := by omega
        have hok : okText l = true := ok_of l HLL2.out (fun k hk => hnn k (by omega))
        have hz4' := hz4
        rw [fillP_all] at hz4'
        have HD := Lib.hid (show readD l = pairsL l 32 ∧ readE l = 0 by unfold readD readE; rw [if_pos hok, if_pos hok]; exact ⟨rfl, rfl⟩)
        have hpl : (pairsL l 32).length = 32 := by simp [pairsL]
        obtain ⟨Y, hY⟩ : ∃ Y, pairsL l 32 = Y := ⟨_, rfl⟩
        rw [hY] at hz4' HD hpl
        have HSY := Lib.hid (show (Try.prog.info? 25).map (·.size) = some (V8 Y).size by rw [V8_size, hpl]; kernel_rfl)
        have HZY := Lib.hid (show Zr.size = (V8 Y).size by rw [V8_size, hpl]; exact HZS.out)
        have Z2 := Lib.hid hz2
        have Z4 := Lib.hid hz4'
        have HB := Lib.hid hb
        clear hz2 hz4 hz4' hb hnn hok hY hpl
        go_wp2_with (first | ((with_reducible show wpList _ _ _ (⟨some 39, .load 25 (.tmp 4), _, _, _, _⟩ :: _) _ _); refine wpList_load_row rfl 25 (.tmp 4) rfl g4 rfl 25 (V8 Y) _ Z4.out Try.underlying25 rfl HSY.out ?_) | ((with_reducible show wpList _ _ _ (⟨none, .store 25 (.tmp 2) (.tmp 39), _, _, _, _⟩ :: _) _ _); refine wpList_store_row rfl 25 (.tmp 2) (.tmp 39) rfl w.heap.size (V8 Y) rfl rfl 25 _ Z2.out HSY.out HZY.out (V8_one _) ?_) | fail)
        have gz := setRow_heap wr w.heap.size _ (V8 Y) _ _ Z2.out
        have hrv := run_loadVar_row (P := Try.prog) (wr.setRow w.heap.size (V8 Y)) w.heap.size 25 25 (V8 Y) (0, 0) _ gz Try.underlying25 rfl HSY.out
        have BB : Below w.heap.size w (wr.setRow w.heap.size (V8 Y)) := below_setRow _ _ HB.out (Nat.le_refl _)
        exact bodyPost_ret (v := .tuple #[.agg (V8 Y), .int .i64 0]) (by simp [results, Try.results36, asAddr, hrv, Act.put]) rfl ⟨by rw [HD.out.1, HD.out.2], BB⟩
  · have hno : okText l = false := ok_len l (by rw [HLL.out]; exact h64)
    have HD := Lib.hid (show V8 (readD l) = Zr ∧ readE l = 1 by unfold readD readE; rw [hno]; exact ⟨HZr.out, rfl⟩)
    have hq : ((s.size : Int) != 64) = true := by simp; omega
    clear hno h64
    go_wp2_with (first | ((with_reducible show wpList _ _ _ (⟨some 11, .load 25 (.tmp 4), _, _, _, _⟩ :: _) _ _); refine wpList_load_row rfl 25 (.tmp 4) rfl g4 rfl 25 Zr _ Z4.out Try.underlying25 rfl HSZ.out ?_) | ((with_reducible show wpList _ _ _ (⟨none, .store 25 (.tmp 2) (.tmp 11), _, _, _, _⟩ :: _) _ _); refine wpList_store_row rfl 25 (.tmp 2) (.tmp 11) rfl w.heap.size Zr rfl rfl 25 _ Z2.out HSZ.out rfl hone ?_) | fail)
    have gz := setRow_heap W2 w.heap.size _ Zr _ _ Z2.out
    have hrv := run_loadVar_row (P := Try.prog) (W2.setRow w.heap.size Zr) w.heap.size 25 25 Zr (0, 0) _ gz Try.underlying25 rfl HSZ.out
    have BB : Below w.heap.size w (W2.setRow w.heap.size Zr) := below_setRow _ _ B2.out (Nat.le_refl _)
    exact bodyPost_ret (v := .tuple #[.agg Zr, .int .i64 1]) (by simp [results, Try.results36, asAddr, hrv, Act.put]) rfl ⟨by rw [HD.out.1, HD.out.2], BB⟩
end Go.Proofs.Ytjaakhjfpigdfaa
