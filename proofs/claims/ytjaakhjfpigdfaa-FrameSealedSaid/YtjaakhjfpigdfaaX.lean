import Derived.Test.YtjaakhjfpigdfaaT
import Derived.Test.YtjaakhjfpigdfaaV3
import Derived.Great.BuildSlice
/-! Text. -/
namespace Go.Proofs.Ytjaakhjfpigdfaa
open Go.RowKit
set_option linter.unusedVariables false
set_option linter.unusedSimpArgs false
def hexc (n : Nat) : UInt8 := if n < 10 then UInt8.ofNat (48 + n) else UInt8.ofNat (87 + n)
/-- A digest's text. -/
def textL (d : By) : List UInt8 := d.flatMap fun b => [hexc (b.toNat / 16), hexc (b.toNat % 16)]
theorem textL_snoc (d : By) (x : BitVec 8) : textL (d ++ [x]) = textL d ++ [hexc (x.toNat / 16), hexc (x.toNat % 16)] := by simp [textL]
theorem textL_len (d : By) : (textL d).length = 2 * d.length := by
  induction d with
  | nil => rfl
  | cons x d ih => unfold textL at ih ⊢; rw [List.flatMap_cons, List.length_append, ih, List.length_cons]; simp; omega
theorem run_index_D (t : Nat) (ht : Try.prog.underlying t = some (.array 32 5)) (d : By) (hd : d.length = 32) (k : Nat) (hk : k < 32) (w : World) : (Instr.index t (.agg (V8 d)) (.int .i64 (k : Int))).run Try.prog w = .ok (.int .u8 ((d.getD k 0).toNat : Int)) w :=
  run_index_arr t 5 32 (V8 d) _ rfl k _ ht Try.underlying5 (by kernel_rfl) hk (V8_at d k (by omega)) w
def hexS : ByteArray := ⟨#[48, 49, 50, 51, 52, 53, 54, 55, 56, 57, 97, 98, 99, 100, 101, 102]⟩
theorem hexS_at (n : Nat) (hn : n < 16) : hexS[n]? = some (hexc n) := by
  have hc : n = 0 ∨ n = 1 ∨ n = 2 ∨ n = 3 ∨ n = 4 ∨ n = 5 ∨ n = 6 ∨ n = 7 ∨ n = 8 ∨ n = 9 ∨ n = 10 ∨ n = 11 ∨ n = 12 ∨ n = 13 ∨ n = 14 ∨ n = 15 := by omega
  rcases hc with rfl | rfl | rfl | rfl | rfl | rfl | rfl | rfl | rfl | rfl | rfl | rfl | rfl | rfl | rfl | rfl <;> rfl
theorem hex_at (n : Nat) (hn : n < 16) (w : World) : (Instr.index 9 (.string ⟨#[48, 49, 50, 51, 52, 53, 54, 55, 56, 57, 97, 98, 99, 100, 101, 102]⟩) (.int .u8 (n : Int))).run Try.prog w = .ok (.int .u8 ((hexc n).toNat : Int)) w := by
  have h : hexS[n]? = some (hexc n) := hexS_at n hn
  show (Instr.index 9 (.string hexS) (.int .u8 (n : Int))).run Try.prog w = _
  simp [Instr.index, asIntOf, run_underlying Try.underlying9, h]
theorem lo8 (x : BitVec 8) : bits .and .u8 (x.toNat : Int) 15 = ((x.toNat % 16 : Nat) : Int) := by
  have h := u8_and_nat x.toNat 15 x.isLt (by omega)
  rw [show ((15 : Nat) : Int) = 15 from rfl] at h
  rw [h, show x.toNat &&& 15 = x.toNat % 16 from Nat.and_two_pow_sub_one_eq_mod x.toNat 4]
set_option maxRecDepth 100000 in
set_option maxHeartbeats 4000000 in
theorem text_any (d : By) (hd : d.length = 32) (w : World) : Calls Try.prog 38 #[.agg (V8 d)] w fun e w' => e = .returned (.string ⟨(textL d).toArray⟩) ∧ Below w.heap.size w w' := by
  have hsz : (Try.prog.info? 25).map (·.size) = some (V8 d).size := by rw [V8_size, hd]; kernel_rfl
  have HSZ := Lib.hid hsz
  have HD := Lib.hid hd
  have hfb := Lib.fresh_isBuilder 110 5 (w.alloc (.cells (V8 d) 25))
  have h0 : ((w.alloc (.cells (V8 d) 25)).alloc (.cells #[.pointer none, .slice none 0 0] 110)).heap[w.heap.size]? = some (.cells (V8 d) 25 (0, 0)) := heap_old _ trivial (heap_new _ _ _ rfl)
  have b0 : Below (w.heap.size + 1) (w.alloc (.cells (V8 d) 25)) ((w.alloc (.cells (V8 d) 25)).alloc (.cells #[.pointer none, .slice none 0 0] 110)) := (Below.refl _ _).alloc (by simp) _
  rw [size_alloc] at hfb
  clear hsz hd
  go_enter Try.func38, Try.ntmps38
  go_upto_region 3 with (first | ((with_reducible show wpList _ _ _ (⟨some 6, .load 25 (.tmp 1), _, _, _, _⟩ :: _) _ _); refine wpList_load_row rfl 25 (.tmp 1) rfl w.heap.size rfl 25 (V8 d) _ h0 Try.underlying25 rfl HSZ.out ?_))
  replace hfb := Lib.hid hfb
  obtain ⟨W1, hW1⟩ : ∃ W, (w.alloc (.cells (V8 d) 25)).alloc (.cells #[.pointer none, .slice none 0 0] 110) = W := ⟨_, rfl⟩
  have b1 : Below w.heap.size w W1 := by rw [← hW1]; exact ((Below.refl _ _).alloc (Nat.le_refl _) _).alloc (by simp) _
  have s1 : w.heap.size + 1 < W1.heap.size := by rw [← hW1]; simp
  rw [hW1] at hfb ⊢
  replace b1 := Lib.hid b1
  clear h0 b0 hW1 HSZ
  go_loopg [7] 32 (fun gk iv wr => ∃ i : Nat, gk = 32 - i ∧ i ≤ 32 ∧ iv = .int .i64 (i : Int) ∧ Lib.IsBuilder 110 5 (w.heap.size + 1) (w.heap.size + 1) (Lib.byteCells (textL (d.take i))) wr ∧ Below w.heap.size w wr ∧ w.heap.size + 1 < wr.heap.size)
  case atStart => exact ⟨0, rfl, by omega, rfl, hfb.out, b1.out, s1⟩
  case round =>
    clear hfb b1 s1
    obtain ⟨i, rfl, hi, rfl, hB, hbel, hsz⟩ := hrel
    by_cases hlt : i < 32
    · have hix := fun w => run_index_D 25 Try.underlying25 d HD.out i hlt w
      have hsn : textL (d.take (i + 1)) = textL (d.take i) ++ [hexc ((d.getD i 0).toNat / 16), hexc ((d.getD i 0).toNat % 16)] := by
        rw [← textL_snoc]
        congr 1
        rw [List.take_add_one, List.getD_eq_getElem?_getD, List.getElem?_eq_getElem (by rw [HD.out]; exact hlt)]
        rfl
      obtain ⟨x, hx⟩ : ∃ x, d.getD i 0 = x := ⟨_, rfl⟩
      rw [hx] at hix hsn
      have hxl := x.isLt
      have hlen : (Lib.byteCells (textL (d.take i))).length ≤ 64 := by rw [Lib.byteCells_length, textL_len, List.length_take]; omega
      obtain ⟨p, hp⟩ : ∃ p, x.toNat / 16 = p := ⟨_, rfl⟩
      obtain ⟨q, hq⟩ : ∃ q, x.toNat % 16 = q := ⟨_, rfl⟩
      rw [hp, hq] at hsn
      have H1 := fun w => hex_at p (by omega) w
      have H2 := fun w => hex_at q (by omega) w
      have e1 : (x.toNat : Int) / 16 = (p : Int) := by omega
      have e2 := lo8 x
      rw [hq] at e2
      have W1 := Lib.hid (writeByte_any (w.heap.size + 1) (w.heap.size + 1) _ ((hexc p).toNat : Int) wr hB (by omega) (by omega))
      obtain ⟨c1, hc1⟩ : ∃ c, hexc p = c := ⟨_, rfl⟩
      obtain ⟨c2, hc2⟩ : ∃ c, hexc q = c := ⟨_, rfl⟩
      rw [hc1] at H1 hsn W1
      rw [hc2] at H2 hsn
      have HSN := Lib.hid hsn
      have HB := Lib.hid hbel
      have HBB := Lib.hid hB
      clear hsn hx hp hq hc1 hc2 hbel hB
      go_wp2_with fail
      refine W1.out.mono ?_
      rintro e w2 ⟨rfl, h2, hb2⟩
      have W2 := Lib.hid (writeByte_any (w.heap.size + 1) (w.heap.size + 1) _ (c2.toNat : Int) w2 h2 (by rw [List.length_append]; simp; omega) (by have := hb2.size; omega))
      have B2 := Lib.hid (HB.out.trans (hb2.mono (by omega)))
      have S2 := hb2.size
      clear W1 h2 hb2 HB HBB
      go_wp2_with fail
      refine W2.out.mono ?_
      rintro e w3 ⟨rfl, h3, hb3⟩
      have H3 : Hid (Lib.IsBuilder 110 5 (w.heap.size + 1) (w.heap.size + 1) (Lib.byteCells (textL (d.take (i + 1)))) w3) := by
        rw [HSN.out]
        have : Lib.byteCells (textL (d.take i) ++ [c1, c2]) = Lib.byteCells (textL (d.take i)) ++ [.int .u8 (c1.toNat : Int)] ++ [.int .u8 (c2.toNat : Int)] := by simp [Lib.byteCells]
        rw [this]
        exact h3
      have B3 := Lib.hid (B2.out.trans (hb3.mono (by omega)))
      have S3 := hb3.size
      clear W2 h3 hb3 B2 hix H1 H2 e1 e2
      go_wp2
      go_roundg (32 - (i + 1))
      case measure => omega
      case rel => exact ⟨i + 1, rfl, by omega, by go_num, H3.out, B3.out, by omega⟩
    · obtain rfl : i = 32 := by omega
      rw [show d.take 32 = d from List.take_of_length_le (by rw [HD.out]; exact Nat.le_refl _)] at hB
      have ST := Lib.hid (string_any (w.heap.size + 1) (w.heap.size + 1) (textL d) wr hB (by
        intro h0
        have := textL_len d
        rw [h0, HD.out] at this
        cases this))
      have HB := Lib.hid hbel
      clear hB hbel
      go_wp2_with (first | (go_at_call 83; refine ST.out.mono ?_; rintro e w4 ⟨rfl, hb4⟩) | fail)
      go_ret
      exact ⟨rfl, HB.out.trans (hb4.mono (by omega))⟩
/-- Two bytes more. -/
theorem V_two (l : List UInt8) (a b : UInt8) : Lib.byteCells l ++ [.int .u8 (a.toNat : Int), .int .u8 (b.toNat : Int)] = Lib.byteCells (l ++ [a, b]) := by simp [Lib.byteCells]
def pdRT (u : Value) (g i : Nat) (x : BitVec 8) (p q : Nat) (c1 c2 : UInt8) : Nat → Value → World → Prop
  | 0 => fun v w => v = u
  | 1 => fun v w => v = .int .i64 (i : Int)
  | 2 => fun v w => v = .pointer (some ⟨g, i, none⟩)
  | 3 => fun v w => v = .int .u8 (x.toNat : Int)
  | 4 => fun v w => v = .int .u8 (p : Int)
  | 5 => fun v w => v = .int .u8 (c1.toNat : Int)
  | 6 => fun v w => v = .int .i64 (i : Int)
  | 7 => fun v w => v = .pointer (some ⟨g, i, none⟩)
  | 8 => fun v w => v = .int .u8 (x.toNat : Int)
  | 9 => fun v w => v = .int .u8 (q : Int)
  | 10 => fun v w => v = .int .u8 (c2.toNat : Int)
  | 11 => fun v w => ∃ h, v = .slice (some ⟨h, 0, none⟩) 2 2 ∧ w.heap[h]? = some (.cells #[.int .u8 (c1.toNat : Int), .int .u8 (c2.toNat : Int)] 5 (0, 0))
  | _ => fun _ _ => True
theorem pdRT_mono (u : Value) (g i : Nat) (x : BitVec 8) (p q : Nat) (c1 c2 : UInt8) : ∀ k v w w', pdRT u g i x p q c1 c2 k v w → Below w.heap.size w w' → pdRT u g i x p q c1 c2 k v w'
  | 0, _, _, _, h, _ => h | 1, _, _, _, h, _ => h | 2, _, _, _, h, _ => h | 3, _, _, _, h, _ => h | 4, _, _, _, h, _ => h | 5, _, _, _, h, _ => h | 6, _, _, _, h, _ => h | 7, _, _, _, h, _ => h | 8, _, _, _, h, _ => h | 9, _, _, _, h, _ => h | 10, _, _, _, h, _ => h
  | 11, _, _, _, h, hb => by
    obtain ⟨a, e, hc⟩ := h
    exact ⟨a, e, keepH hb hc⟩
  | _ + 12, _, _, _, _, _ => trivial
theorem idx24 (g i : Nat) (h : i < 32) (w : World) : (do pure (Next.value (← Instr.indexAt 24 (.pointer (some ⟨g, 0, none⟩)) (.int .i64 (i : Int)))) : Sem Next).run Try.prog w = .ok (.value (.pointer (some ⟨g, i, none⟩))) w := by
  have h2 : (i : Int) < 32 := by omega
  simp [go_sem, h2]
theorem load5 (a : Addr) (x : Int) (w : World) (h : w.cell? a = some (.int .u8 x)) : (do pure (Next.value (← Instr.loadAt 5 (.pointer (some a)))) : Sem Next).run Try.prog w = .ok (.value (.int .u8 x)) w := by
  simp [go_sem, h]
set_option maxRecDepth 100000 in
set_option maxHeartbeats 4000000 in
theorem rtext_any (d : By) (hd : d.length = 32) (w : World) : Calls Try.prog 39 #[.agg (V8 d)] w fun e w' => e = .returned (.string ⟨(textL d).toArray⟩) ∧ Below w.heap.size w w' := by
  have HD := Lib.hid hd
  have h0 : (w.alloc (.cells (V8 d) 24)).heap[w.heap.size]? = some (.cells (V8 d) 24 (0, 0)) := heap_new _ _ _ rfl
  have b0 : Below w.heap.size w (w.alloc (.cells (V8 d) 24)) := (Below.refl _ _).alloc (Nat.le_refl _) _
  have s0 : (w.alloc (.cells (V8 d) 24)).heap.size = w.heap.size + 1 := size_alloc _ _
  obtain ⟨W1, hW1⟩ : ∃ W, w.alloc (.cells (V8 d) 24) = W := ⟨_, rfl⟩
  rw [hW1] at h0 b0 s0
  have HW1 := Lib.hid hW1
  replace h0 := Lib.hid h0
  replace b0 := Lib.hid b0
  replace s0 := Lib.hid s0
  obtain ⟨i0, hi0, hz0, hz1, hz2⟩ := info_parts info5
  clear hW1 hd
  go_enter Try.func39, Try.ntmps39
  go_wp2
  rw [HW1.out]
  go_loopg [3, 4] 32 (fun gk vv iv wr => ∃ i : Nat, gk = 32 - i ∧ i ≤ 32 ∧ iv = .int .i64 (i : Int) ∧ wr.ownsRow (w.heap.size + 1) 5 1 vv (2 * i) (Lib.byteCells (textL (d.take i))) ∧ wr.heap[w.heap.size]? = some (.cells (V8 d) 24) ∧ Below (w.heap.size + 1) W1 wr)
  case atStart => exact ⟨0, rfl, by omega, rfl, ⟨rfl, .inl ⟨rfl, rfl⟩⟩, h0.out, Below.refl _ _⟩
  case round =>
    clear h0
    obtain ⟨i, rfl, hi, rfl, hown, hz, hbel⟩ := hrel
    by_cases hlt : i < 32
    · have hd := HD.out
      have q0 : wr.cell? ⟨w.heap.size, i, none⟩ = some (.int .u8 ((d.getD i 0).toNat : Int)) := by rw [Joins.cell_of_block hz]; exact V8_at d i (by omega)
      have hsn : textL (d.take (i + 1)) = textL (d.take i) ++ [hexc ((d.getD i 0).toNat / 16), hexc ((d.getD i 0).toNat % 16)] := by
        rw [← textL_snoc]
        congr 1
        rw [List.take_add_one, List.getD_eq_getElem?_getD, List.getElem?_eq_getElem (by rw [hd]; exact hlt)]
        rfl
      obtain ⟨x, hx⟩ : ∃ x, d.getD i 0 = x := ⟨_, rfl⟩
      rw [hx] at q0 hsn
      have hxl := x.isLt
      obtain ⟨p, hp⟩ : ∃ p, x.toNat / 16 = p := ⟨_, rfl⟩
      obtain ⟨q, hq⟩ : ∃ q, x.toNat % 16 = q := ⟨_, rfl⟩
      rw [hp, hq] at hsn
      have H1 := fun w => hex_at p (by omega) w
      have H2 := fun w => hex_at q (by omega) w
      have e1 : (x.toNat : Int) / 16 = (p : Int) := by omega
      have e2 : (x.toNat : Int) % 16 = (q : Int) := by omega
      obtain ⟨c1, hc1⟩ : ∃ c, hexc p = c := ⟨_, rfl⟩
      obtain ⟨c2, hc2⟩ : ∃ c, hexc q = c := ⟨_, rfl⟩
      rw [hc1] at H1 hsn
      rw [hc2] at H2 hsn
      have hiI : (i : Int) < 32 := by omega
      have HSN := Lib.hid hsn
      have HB := Lib.hid hbel
      have HO := Lib.hid hown
      have HZ := Lib.hid hz
      clear hsn hx hp hq hc1 hc2 hbel hown hz hd
      have e3 : (x.toNat : Int).tdiv 16 = (p : Int) := by rw [Int.tdiv_eq_ediv_of_nonneg (by omega)]; exact e1
      have e4 : (x.toNat : Int).tmod 16 = (q : Int) := by rw [Int.tmod_eq_emod_of_nonneg (by omega)]; exact e2
      have e5 : IntKind.u8.wrap (p : Int) = (p : Int) := by rw [IntKind.wrap_u8]; omega
      have e6 : IntKind.u8.wrap (q : Int) = (q : Int) := by rw [IntKind.wrap_u8]; omega
      have hsw := HB.out.size
      have hs1 := s0.out
      have HB0 := HB
      go_wp2
      refine wp_region_mono (w0 := wr) 12 [some 9, some 10, some 11, some 12, some 13, some 14, some 15, some 16, some 17, some 18, some 19, some 20] (by kernel_rfl) (by kernel_rfl) (by kernel_rfl) (by kernel_rfl) (of_decide_eq_true (by kernel_rfl)) (by kernel_rfl) (pdRT u3 w.heap.size i x p q c1 c2) ?_ ?_ ?_
      · exact pdRT_mono u3 w.heap.size i x p q c1 c2
      · intro i hi o w1 b ho hbel hv hstood hsize K hK
        have hc : i = 0 ∨ i = 1 ∨ i = 2 ∨ i = 3 ∨ i = 4 ∨ i = 5 ∨ i = 6 ∨ i = 7 ∨ i = 8 ∨ i = 9 ∨ i = 10 ∨ i = 11 := by omega
        rcases hc with rfl | rfl | rfl | rfl | rfl | rfl | rfl | rfl | rfl | rfl | rfl | rfl
        · obtain rfl : (⟨some 9, .move (Operand.tmp 3), _, _, _, _⟩ : Oper) = o := Option.some.inj ho
          refine ask_plain rfl ?_
          have e : b.eval (.tmp 3) = u3 := (hstood 3 (by kernel_rfl)).trans rfl
          exact wp_val _ rfl (hK _ _ e (Below.refl _ _))
        · obtain rfl : (⟨some 10, .move (Operand.tmp 4), _, _, _, _⟩ : Oper) = o := Option.some.inj ho
          refine ask_plain rfl ?_
          have e : b.eval (.tmp 4) = .int .i64 (i : Int) := (hstood 4 (by kernel_rfl)).trans rfl
          exact wp_val _ rfl (hK _ _ e (Below.refl _ _))
        · obtain rfl : (⟨some 11, .indexAddr 24 (Operand.tmp 1) (Operand.tmp 10), _, _, _, _⟩ : Oper) = o := Option.some.inj ho
          refine ask_plain rfl ?_
          have e1 : b.eval (.tmp 1) = .pointer (some ⟨w.heap.size, 0, none⟩) := (hstood 1 (by kernel_rfl)).trans rfl
          have e2 : b.eval (.tmp 10) = .int .i64 (i : Int) := hv 1 10 (by kernel_rfl) (by kernel_rfl) (of_decide_eq_true (by kernel_rfl))
          exact wp_val (.pointer (some ⟨w.heap.size, i, none⟩)) (by simp only [execOp, e1, e2]; exact idx24 w.heap.size i hlt w1) (hK _ _ rfl (Below.refl _ _))
        · obtain rfl : (⟨some 12, .load 5 (Operand.tmp 11), _, _, _, _⟩ : Oper) = o := Option.some.inj ho
          refine ask_plain rfl ?_
          have e : b.eval (.tmp 11) = .pointer (some ⟨w.heap.size, i, none⟩) := hv 2 11 (by kernel_rfl) (by kernel_rfl) (of_decide_eq_true (by kernel_rfl))
          have hq := (hbel.cell (World.block_lt_of_cell? _ _ q0)).trans q0
          exact wp_val (.int .u8 (x.toNat : Int)) (by simp only [execOp, e]; exact load5 _ _ _ hq) (hK _ _ rfl (Below.refl _ _))
        · obtain rfl : (⟨some 13, .binOp BinOp.quo 5 (Operand.tmp 12) (Operand.const (Value.int IntKind.u8 16)) 5, _, _, _, _⟩ : Oper) = o := Option.some.inj ho
          refine ask_plain rfl ?_
          have e : b.eval (.tmp 12) = .int .u8 (x.toNat : Int) := hv 3 12 (by kernel_rfl) (by kernel_rfl) (of_decide_eq_true (by kernel_rfl))
          exact wp_val (.int .u8 (p : Int)) (by simp only [execOp, e]; simp [go_sem, e3, e5]) (hK _ _ rfl (Below.refl _ _))
        · obtain rfl : (⟨some 14, .index 9 (Operand.const (Value.string { data := #[48, 49, 50, 51, 52, 53, 54, 55, 56, 57, 97, 98, 99, 100, 101, 102] })) (Operand.tmp 13), _, _, _, _⟩ : Oper) = o := Option.some.inj ho
          refine ask_plain rfl ?_
          have e : b.eval (.tmp 13) = .int .u8 (p : Int) := hv 4 13 (by kernel_rfl) (by kernel_rfl) (of_decide_eq_true (by kernel_rfl))
          exact wp_val _ (by simp only [execOp, e]; rw [show b.eval (.const (.string ⟨#[48, 49, 50, 51, 52, 53, 54, 55, 56, 57, 97, 98, 99, 100, 101, 102]⟩)) = .string ⟨#[48, 49, 50, 51, 52, 53, 54, 55, 56, 57, 97, 98, 99, 100, 101, 102]⟩ from rfl]; simp only [Sem.run_bind, H1, Result.andThen]; rfl) (hK _ _ rfl (Below.refl _ _))
        · obtain rfl : (⟨some 15, .move (Operand.tmp 4), _, _, _, _⟩ : Oper) = o := Option.some.inj ho
          refine ask_plain rfl ?_
          have e : b.eval (.tmp 4) = .int .i64 (i : Int) := (hstood 4 (by kernel_rfl)).trans rfl
          exact wp_val _ rfl (hK _ _ e (Below.refl _ _))
        · obtain rfl : (⟨some 16, .indexAddr 24 (Operand.tmp 1) (Operand.tmp 15), _, _, _, _⟩ : Oper) = o := Option.some.inj ho
          refine ask_plain rfl ?_
          have e1 : b.eval (.tmp 1) = .pointer (some ⟨w.heap.size, 0, none⟩) := (hstood 1 (by kernel_rfl)).trans rfl
          have e2 : b.eval (.tmp 15) = .int .i64 (i : Int) := hv 6 15 (by kernel_rfl) (by kernel_rfl) (of_decide_eq_true (by kernel_rfl))
          exact wp_val (.pointer (some ⟨w.heap.size, i, none⟩)) (by simp only [execOp, e1, e2]; exact idx24 w.heap.size i hlt w1) (hK _ _ rfl (Below.refl _ _))
        · obtain rfl : (⟨some 17, .load 5 (Operand.tmp 16), _, _, _, _⟩ : Oper) = o := Option.some.inj ho
          refine ask_plain rfl ?_
          have e : b.eval (.tmp 16) = .pointer (some ⟨w.heap.size, i, none⟩) := hv 7 16 (by kernel_rfl) (by kernel_rfl) (of_decide_eq_true (by kernel_rfl))
          have hq := (hbel.cell (World.block_lt_of_cell? _ _ q0)).trans q0
          exact wp_val (.int .u8 (x.toNat : Int)) (by simp only [execOp, e]; exact load5 _ _ _ hq) (hK _ _ rfl (Below.refl _ _))
        · obtain rfl : (⟨some 18, .binOp BinOp.rem 5 (Operand.tmp 17) (Operand.const (Value.int IntKind.u8 16)) 5, _, _, _, _⟩ : Oper) = o := Option.some.inj ho
          refine ask_plain rfl ?_
          have e : b.eval (.tmp 17) = .int .u8 (x.toNat : Int) := hv 8 17 (by kernel_rfl) (by kernel_rfl) (of_decide_eq_true (by kernel_rfl))
          exact wp_val (.int .u8 (q : Int)) (by simp only [execOp, e]; simp [go_sem, e4, e6]) (hK _ _ rfl (Below.refl _ _))
        · obtain rfl : (⟨some 19, .index 9 (Operand.const (Value.string { data := #[48, 49, 50, 51, 52, 53, 54, 55, 56, 57, 97, 98, 99, 100, 101, 102] })) (Operand.tmp 18), _, _, _, _⟩ : Oper) = o := Option.some.inj ho
          refine ask_plain rfl ?_
          have e : b.eval (.tmp 18) = .int .u8 (q : Int) := hv 9 18 (by kernel_rfl) (by kernel_rfl) (of_decide_eq_true (by kernel_rfl))
          exact wp_val _ (by simp only [execOp, e]; rw [show b.eval (.const (.string ⟨#[48, 49, 50, 51, 52, 53, 54, 55, 56, 57, 97, 98, 99, 100, 101, 102]⟩)) = .string ⟨#[48, 49, 50, 51, 52, 53, 54, 55, 56, 57, 97, 98, 99, 100, 101, 102]⟩ from rfl]; simp only [Sem.run_bind, H2, Result.andThen]; rfl) (hK _ _ rfl (Below.refl _ _))
        · obtain rfl : (⟨some 20, .buildSlice 35 2 #[(0, (Operand.tmp 14)), (1, (Operand.tmp 19))], _, _, _, _⟩ : Oper) = o := Option.some.inj ho
          refine ask_plain rfl ?_
          have e1 : b.eval (.tmp 14) = .int .u8 (c1.toNat : Int) := hv 5 14 (by kernel_rfl) (by kernel_rfl) (of_decide_eq_true (by kernel_rfl))
          have e2 : b.eval (.tmp 19) = .int .u8 (c2.toNat : Int) := hv 10 19 (by kernel_rfl) (by kernel_rfl) (of_decide_eq_true (by kernel_rfl))
          refine wp_buildSlice 35 5 2 _ rfl #[.int .u8 (c1.toNat : Int), .int .u8 (c2.toNat : Int)] i0 (.int .u8 0) Try.underlying35 hi0 hz0 (by rw [hz1]; decide) (by rw [hz1]; decide) (by rw [hz1]; simp only [List.map_toArray, List.map_cons, List.map_nil, e1, e2]; kernel_rfl) (hK _ _ ⟨_, rfl, heap_new _ _ _ rfl⟩ (below_alloc1 _ _))
      · intro vs w1 hp hb1
        have v0 : vs 0 = u3 := hp 0 (by decide)
        have v1 : vs 1 = .int .i64 (i : Int) := hp 1 (by decide)
        have v2 : vs 2 = .pointer (some ⟨w.heap.size, i, none⟩) := hp 2 (by decide)
        have v3 : vs 3 = .int .u8 (x.toNat : Int) := hp 3 (by decide)
        have v4 : vs 4 = .int .u8 (p : Int) := hp 4 (by decide)
        have v5 : vs 5 = .int .u8 (c1.toNat : Int) := hp 5 (by decide)
        have v6 : vs 6 = .int .i64 (i : Int) := hp 6 (by decide)
        have v7 : vs 7 = .pointer (some ⟨w.heap.size, i, none⟩) := hp 7 (by decide)
        have v8 : vs 8 = .int .u8 (x.toNat : Int) := hp 8 (by decide)
        have v9 : vs 9 = .int .u8 (q : Int) := hp 9 (by decide)
        have v10 : vs 10 = .int .u8 (c2.toNat : Int) := hp 10 (by decide)
        obtain ⟨h, v11, hh⟩ : ∃ h, vs 11 = .slice (some ⟨h, 0, none⟩) 2 2 ∧ w1.heap[h]? = some (.cells #[.int .u8 (c1.toNat : Int), .int .u8 (c2.toNat : Int)] 5 (0, 0)) := hp 11 (by decide)
        change wpList _ _ _ [_, _] _ _
        simp only [putD, Act.put, List.setIfInBounds_toArray, List.set_cons_zero, List.set_cons_succ, v0, v1, v2, v3, v4, v5, v6, v7, v8, v9, v10, v11]
        have HO1 := Lib.hid (own_below HO.out hb1)
        have HH := Lib.hid hh
        have HB1 := Lib.hid (HB.out.trans (hb1.mono (by omega)))
        have hsw1 := hb1.size
        clear e1 e2 e3 e4 e5 e6 H1 H2 q0 v0 v1 v2 v3 v4 v5 v6 v7 v8 v9 v10 v11 hp hb1 hh HB HO
        go_wp2_with (first | (at_builtin; refine wpList_append_own _ rfl (.tmp 9) (.tmp 20) 35 rfl (w.heap.size + 1) 5 i0 (.int .u8 0) 1 1 Try.underlying35 hi0 hz0 hz1 hz2 rfl (by decide) _ (2 * i) _ rfl HO1.out ⟨h, 0, none⟩ 2 2 [.int .u8 (c1.toNat : Int), .int .u8 (c2.toNat : Int)] rfl rfl (fun j u hj => by rw [add_zero_off, Joins.cell_of_block HH.out]; simpa using hj) (fun u h => by simp at h; rcases h with rfl | rfl <;> rfl) (by unfold maxLen; omega) (by omega) (by omega) ?_; intro v' w3 hown' hgrow _; have hb3 : Below (w.heap.size + 1) W1 w3 := HB1.out.grown hgrow (by omega) (own_base' HO1.out); have HO3 := Lib.hid hown'; clear hown' hgrow) | fail)
        go_roundg (32 - (i + 1))
        case measure => omega
        case rel =>
          have ho := HO3.out
          rw [V_two, ← HSN.out] at ho
          refine ⟨i + 1, rfl, by omega, by go_num, ho, ?_, hb3⟩
          have h0 := HZ.out
          rw [hb3.block _ (by omega), ← HB0.out.block _ (by omega)]
          exact h0
    · obtain rfl : i = 32 := by omega
      rw [show d.take 32 = d from List.take_of_length_le (by rw [HD.out]; exact Nat.le_refl _)] at hown
      have HO := Lib.hid hown
      have HB := Lib.hid hbel
      have hl64 := textL_len d
      rw [HD.out] at hl64
      obtain ⟨g, cap, rfl⟩ : ∃ g cap, u3 = .slice (some ⟨g, 0, none⟩) 64 cap := by
        rcases hown.2 with ⟨_, h0⟩ | ⟨g, cap, _, hv, _⟩
        · omega
        · exact ⟨g, cap, hv⟩
      have hcv := fun w1 (hb : Below wr.heap.size wr w1) => run_convert_bytes_back (P := Try.prog) w1 35 9 5 ⟨g, 0, none⟩ cap (textL d) Try.underlying35 Try.underlying5 Try.underlying9 (fun j hj => by
        have h1 := hown.cells (g := g) rfl j (.int .u8 ((textL d)[j].toNat : Int)) (by simp [Lib.byteCells, hj])
        rw [hb.cell (World.block_lt_of_cell? _ _ h1)]
        exact h1)
      rw [hl64] at hcv
      have hc0 := hcv wr (Below.refl _ _)
      clear hown hz hbel hcv
      go_wp2
      go_ret
      exact ⟨rfl, b0.out.trans (HB.out.mono (by omega))⟩
end Go.Proofs.Ytjaakhjfpigdfaa
