import Derived.Test.YtjaakhjfpigdfaaU10
import Derived.Deep.CutRange
import Derived.Test.YtjaakhjfpigdfaaW2
/-! ShaPieces. -/
namespace Go.Proofs.Ytjaakhjfpigdfaa
open Go.RowKit
set_option linter.unusedVariables false
set_option linter.unusedSimpArgs false
theorem keep_one {w w' : World} {g4 g1 : Nat} {ov : Value} (hgr : w.grownBy w' (some g4)) (hz4 : w.heap[g4]? = some (.cells #[] 35 (0, 0))) (hz1 : w.heap[g1]? = some (.cells #[ov] 35 (0, 0))) : w'.heap[g1]? = some (.cells #[ov] 35 (0, 0)) := by
  rw [hgr.block _ (Array.getElem?_eq_some_iff.1 hz1).1 (fun e => by
    cases e
    rw [hz1] at hz4
    cases hz4)]
  exact hz1
def pdP (A : Option Addr) (n c i : Nat) (Z : By) : Nat → Value → World → Prop
  | 0 => fun v w => v = .int .i64 0
  | 1 => fun v w => v = .bool false
  | 2 => fun v w => v = .bool false
  | 3 => fun v w => v = .agg (V8 Z)
  | 4 => fun v w => v = .slice A n c
  | 5 => fun v w => v = .int .i64 (i : Int)
  | 6 => fun v w => v = .int .i64 ((i + 1 : Nat) : Int)
  | 7 => fun v w => v = .slice A (i + 1) c
  | 8 => fun v w => v = .agg (V8 Z)
  | 9 => fun v w => v = .bool false
  | _ => fun _ _ => True
theorem pdP_mono (A : Option Addr) (n c i : Nat) (Z : By) : ∀ k v w w', pdP A n c i Z k v w → Below w.heap.size w w' → pdP A n c i Z k v w'
  | 0, _, _, _, h, _ => h
  | 1, _, _, _, h, _ => h
  | 2, _, _, _, h, _ => h
  | 3, _, _, _, h, _ => h
  | 4, _, _, _, h, _ => h
  | 5, _, _, _, h, _ => h
  | 6, _, _, _, h, _ => h
  | 7, _, _, _, h, _ => h
  | 8, _, _, _, h, _ => h
  | 9, _, _, _, h, _ => h
  | _ + 10, _, _, _, _, _ => trivial
def pdQ (A : Option Addr) (n c i : Nat) (Z : By) (w0 : World) (B : Nat) (qs : List By) (b : By) (ov : Value) : Nat → Value → World → Prop
  | 0 => fun v w => v = .int .i64 0
  | 1 => fun v w => v = .bool false
  | 2 => fun v w => v = .bool false
  | 3 => fun v w => v = .agg (V8 Z)
  | 4 => fun v w => ∃ g, v = .slice (some ⟨g, 0, none⟩) 0 0 ∧ B ≤ g ∧ w.heap[g]? = some (.cells #[] 35 (0, 0))
  | 5 => fun v w => v = .slice A n c
  | 6 => fun v w => v = .int .i64 (i : Int)
  | 7 => fun v w => v = .int .i64 ((i + 1 : Nat) : Int)
  | 8 => fun v w => v = .slice A (i + 1) c
  | 9 => fun v w => OwnP w0 w B v (qs.take (i + 1))
  | 10 => fun v w => v = ov
  | 11 => fun v w => ∃ g, v = .slice (some ⟨g, 0, none⟩) 1 1 ∧ w.heap[g]? = some (.cells #[ov] 35 (0, 0))
  | 12 => fun v w => OwnP w0 w B v (qs.take (i + 1) ++ [b])
  | 13 => fun v w => v = .agg (V8 Z)
  | 14 => fun v w => v = .bool false
  | _ => fun _ _ => True
theorem pdQ_mono (A : Option Addr) (n c i : Nat) (Z : By) (w0 : World) (B : Nat) (qs : List By) (b : By) (ov : Value) : ∀ k v w w', pdQ A n c i Z w0 B qs b ov k v w → Below w.heap.size w w' → pdQ A n c i Z w0 B qs b ov k v w'
  | 0, _, _, _, h, _ => h
  | 1, _, _, _, h, _ => h
  | 2, _, _, _, h, _ => h
  | 3, _, _, _, h, _ => h
  | 4, _, _, _, h, hb => by obtain ⟨g, e, h1, h2⟩ := h; exact ⟨g, e, h1, keepH hb h2⟩
  | 5, _, _, _, h, _ => h
  | 6, _, _, _, h, _ => h
  | 7, _, _, _, h, _ => h
  | 8, _, _, _, h, _ => h
  | 9, _, _, _, h, hb => OwnP.below h hb
  | 10, _, _, _, h, _ => h
  | 11, _, _, _, h, hb => by obtain ⟨g, e, h2⟩ := h; exact ⟨g, e, keepH hb h2⟩
  | 12, _, _, _, h, hb => OwnP.below h hb
  | 13, _, _, _, h, _ => h
  | 14, _, _, _, h, _ => h
  | _ + 15, _, _, _, _, _ => trivial
set_option maxRecDepth 100000 in
set_option maxHeartbeats 8000000 in
theorem shaPieces_true (ps : List By) (A : Option Addr) (c : Nat) (at' : Int) (b : By) (B : Option Addr) (d : Nat) (w : World) (hr : RdN w A ps) (hc : ps.length ≤ c) (hat' : -9223372036854775808 ≤ at' ∧ at' ≤ 9223372036854775807) (hrb : RdB w B b) (hd : b.length ≤ d) (y : b.length * 1 ≤ 140737488351232) (hnb : B = none → d = 0) : Calls Try.prog 8 #[.slice A ps.length c, .int .i64 at', .slice B b.length d] w fun e w' => e = .returned (.bool true) ∧ Below w.heap.size w w' := by
  have hE0 := Lib.hid (show EqN w b (.slice B b.length d) from ⟨B, d, rfl, hd, hrb, hnb⟩)
  have CT := Lib.hid (cut_any ps A c w hr hc)
  have hfl := cutL_flat ps
  have hql : (cutL ps).length ≤ 20 := by rw [cutL_len]; omega
  obtain ⟨i35, hi35, hz35, hs35, hb35⟩ := info_parts info35
  have hz := zeros32
  have hzs : (V8 (List.replicate 32 0)).size = 32 := by rw [V8_size]; rfl
  obtain ⟨Zr, hZr⟩ : ∃ Z, V8 (List.replicate 32 0) = Z := ⟨_, rfl⟩
  rw [hZr] at hz hzs
  have HZ := Lib.hid hz
  have HZS := Lib.hid hzs
  have HI35 := Lib.hid hi35
  have HZ35 := Lib.hid hz35
  have HS35 := Lib.hid hs35
  clear hr hrb hnb y hZr hz hzs hb35 hi35 hz35 hs35
  go_enter Try.func8, Try.ntmps8
  go_wp2_with fail
  refine CT.out.mono ?_
  rintro e w1 ⟨v, rfl, hown, hb1⟩
  obtain ⟨A1, c1, rfl, hc1, hr1⟩ := hown.rd hb1
  obtain ⟨qs, hqs⟩ : ∃ qs, cutL ps = qs := ⟨_, rfl⟩
  rw [hqs] at hr1 hc1 hfl hql ⊢
  have HR1 := Lib.hid hr1
  have HB1 := Lib.hid hb1
  have hE1 := Lib.hid (hE0.out.below hb1)
  clear hown hb1 hr1 CT hqs hE0
  go_upto_if 19 with (fail)
  go_cut [2] from 20 to 21 (fun v wx => ∃ m : Nat, m ≤ 600 ∧ m ≤ b.length ∧ v = .slice B m d ∧ wx = w1)
  case first =>
    by_cases h6 : 600 < b.length
    · have hcI : (600 : Int) ≤ (d : Int) := by omega
      go_wp2
      go_meet
      case rel => exact ⟨600, by omega, by omega, rfl, rfl⟩
    · go_wp2
      go_meet
      case rel => exact ⟨b.length, by omega, by omega, rfl, rfl⟩
  case rest =>
    obtain ⟨m, hm6, hmb, rfl, rfl⟩ := hcut
    have hE := hE1.out.take m hmb
    obtain ⟨b2, hb2⟩ : ∃ b2, b.take m = b2 := ⟨_, rfl⟩
    have hbn : b2.length ≤ 600 := by rw [← hb2, List.length_take]; omega
    rw [hb2] at hE
    obtain ⟨ov, hov⟩ : ∃ ov, Value.slice B m d = ov := ⟨_, rfl⟩
    rw [hov] at hE
    rw [hov]
    have hovf : ∃ a k c, ov = .slice a k c := ⟨_, _, _, hov.symm⟩
    have HOV := Lib.hid hE
    have HOF := Lib.hid hovf
    have HFI := Lib.hid (show Instr.fill (fun i => some (i * 1, 1)) ((Array.range (1 * 1)).map ((Value.slice none 0 0).cells[· % (Value.slice none 0 0).cells.size]!)) [(0, ov)] = some #[ov] from by rw [← hov]; kernel_rfl)
    have NW := Lib.hid (new_any wc)
    clear hE1 hE hb2 hmb hm6 hov hd hovf
    go_wp2_with fail
    refine NW.out.mono ?_
    rintro e w2 ⟨rfl, hn2, hb2⟩
    have hat2 : HashAt w2 (wc.heap.size + 1) [] := hash_empty hn2
    obtain ⟨g, hg⟩ : ∃ g, wc.heap.size + 1 = g := ⟨_, rfl⟩
    rw [hg] at hat2
    rw [hg]
    have HA2 := Lib.hid hat2
    have HB2 := Lib.hid hb2
    clear hat2 hb2 hn2 NW
    obtain ⟨n, hn⟩ : ∃ n, qs.length = n := ⟨_, rfl⟩
    rw [hn] at hc1 hql
    rw [hn]
    go_wp2
    go_loopg [8] n (fun gk v8 wr => ∃ i : Nat, gk = n - i ∧ i ≤ n ∧ v8 = .int .i64 (i : Int) ∧ HashAt wr g (qs.take i).flatten ∧ Below wc.heap.size wc wr)
    case atStart => exact ⟨0, rfl, by omega, rfl, HA2.out, HB2.out⟩
    case round =>
      clear HA2 HB2
      obtain ⟨i, rfl, hi, rfl, hat, hbw⟩ := hrel
      by_cases hlt : i < n
      · obtain ⟨ad, u, rfl, hcell, hEu⟩ := HR1.out.at' i (by rw [hn]; exact hlt)
        have hcw : wr.cell? (ad.add i) = some u := (hbw.cell (World.block_lt_of_cell? _ _ hcell)).trans hcell
        have hft := flat_take qs i (by rw [hn]; exact hlt)
        have hfl1 := flat_le qs (i + 1)
        obtain ⟨l1, hl1⟩ : ∃ l1, (qs.take (i + 1)).flatten = l1 := ⟨_, rfl⟩
        rw [hl1] at hft hfl1
        obtain ⟨l, hl⟩ : ∃ l, (qs.take i).flatten = l := ⟨_, rfl⟩
        rw [hl] at hft hat
        obtain ⟨p, hp⟩ : ∃ p, qs.getD i [] = p := ⟨_, rfl⟩
        rw [hp] at hft hEu
        have hll : l1.length = l.length + p.length := by rw [hft, List.length_append]
        have WR := Lib.hid (hwrite_any g l p u wr hat (hEu.below hbw) (by omega))
        rw [← hft] at WR
        have hgs : wc.heap.size ≤ g := by omega
        have HBW := Lib.hid hbw
        have HL1 := Lib.hid hl1
        obtain ⟨Z, hZ1⟩ : ∃ Z, sumL l1 = Z := ⟨_, rfl⟩
        have hZl : Z.length = 32 := by rw [← hZ1]; exact sumL_len l1
        have HZ1 := Lib.hid hZ1
        have HZL := Lib.hid hZl
        have HSZ := Lib.hid (show (Try.prog.info? 25).map (·.size) = some (V8 Z).size by rw [V8_size, hZl]; kernel_rfl)
        have HEQ := Lib.hid (fun w => eq_dig 25 Try.underlying25 Z Z hZl hZl w)
        rw [show (Z == Z) = true by simp] at HEQ
        have HW := Lib.hid (show IntKind.i64.wrap ((i : Int) + 1) = (i : Int) + 1 by rw [IntKind.wrap_i64]; omega)
        have HTL := Lib.hid (show (qs.take (i + 1)).length = i + 1 by rw [List.length_take]; omega)
        have HRT := Lib.hid (show RdN wc (some ad) (qs.take (i + 1)) from HR1.out.take (i + 1))
        have hl1m : l1.length ≤ 12000 := by omega
        clear hat hbw hl hp hft hfl1 hll hcell hEu hZ1 hZl hl1
        go_wp2_with fail
        refine WR.out.mono ?_
        rintro e w3 ⟨rfl, hat3, hbes3⟩
        have HB3 := Lib.hid (HBW.out.trans (hbes3.to_below hgs HBW.out.size))
        have S2 := Lib.hid (hsum_any g l1 w3 hat3 (by omega))
        rw [HZ1.out] at S2
        have HA3 := Lib.hid hat3
        clear WR hat3 hbes3 HBW hcw
        go_wp2_with fail
        refine S2.out.mono ?_
        rintro e w4 ⟨rfl, hb4⟩
        have HB4 := Lib.hid (HB3.out.trans (hb4.mono HB3.out.size))
        have HA4 := Lib.hid (HA3.out.below hb4)
        clear S2 hb4 HB3 HA3
        go_upto_region 13 with (first | ((with_reducible show wpList _ _ _ (⟨none, .store 25 (.tmp 9) (.tmp 41), _, _, _, _⟩ :: _) _ _); rw [← HZ.out]; refine wpList_store_row rfl 25 (.tmp 9) (.tmp 41) rfl w4.heap.size (V8 Z) rfl rfl 25 _ (heap_new _ _ _ rfl) HSZ.out (by rw [V8_size, HZL.out]; exact HZS.out) (V8_one _) ?_) | fail)
        generalize hW5 : (World.setRow _ _ _) = W5
        have b5 : Below w4.heap.size w4 W5 := by rw [← hW5]; exact below_setRow _ _ ((Below.refl _ _).alloc (Nat.le_refl _) _) (Nat.le_refl _)
        have Z5 := Lib.hid (show W5.heap[w4.heap.size]? = some (.cells (V8 Z) 25 (0, 0)) by rw [← hW5]; exact setRow_heap _ _ _ _ _ _ (heap_new _ _ _ rfl))
        have HB5 := Lib.hid (HB4.out.trans (b5.mono HB4.out.size))
        have HA5 := Lib.hid (HA4.out.below b5)
        clear hW5 b5 HB4 HA4
        have RS := Lib.hid (show ∀ w1, Below W5.heap.size W5 w1 → Calls Try.prog 26 #[.slice (some ad) (i + 1) c1] w1 fun e w' => e = .returned (.agg (V8 Z)) ∧ Below w1.heap.size w1 w' from fun w1 hb => by
          have h := rsum_any (qs.take (i + 1)) (some ad) c1 w1 (HRT.out.below (HB5.out.trans (hb.mono HB5.out.size))) (by rw [HTL.out]; omega) (by rw [HL1.out]; omega)
          rw [HTL.out, HL1.out, HZ1.out] at h
          exact h)
        refine wp_region_mono (w0 := _) 10 [some 43, some 44, some 45, some 46, some 47, some 48, some 49, some 50, some 51, some 52] (by kernel_rfl) (by kernel_rfl) (by kernel_rfl) (by kernel_rfl) (of_decide_eq_true (by kernel_rfl)) (by kernel_rfl) (pdP (some ad) n c1 i Z) ?_ ?_ ?_
        · exact pdP_mono (some ad) n c1 i Z
        · intro i hi o w1 b ho hbel hv hstood hsize K hK
          have hc : i = 0 ∨ i = 1 ∨ i = 2 ∨ i = 3 ∨ i = 4 ∨ i = 5 ∨ i = 6 ∨ i = 7 ∨ i = 8 ∨ i = 9 := by omega
          rcases hc with rfl | rfl | rfl | rfl | rfl | rfl | rfl | rfl | rfl | rfl
          · obtain rfl : (⟨some 43, .move (Operand.tmp 10), _, _, _, _⟩ : Oper) = o := Option.some.inj ho
            refine ask_plain rfl ?_
            have e : b.eval (.tmp 10) = .int .i64 0 := (hstood 10 (by kernel_rfl)).trans rfl
            exact wp_val _ rfl (hK _ _ e (Below.refl _ _))
          · obtain rfl : (⟨some 44, .binOp BinOp.neq 44 (Operand.tmp 43) (Operand.const (Value.int IntKind.i64 0)) 44, _, _, _, _⟩ : Oper) = o := Option.some.inj ho
            refine ask_plain rfl ?_
            have e : b.eval (.tmp 43) = .int .i64 0 := hv 0 43 (by kernel_rfl) (by kernel_rfl) (of_decide_eq_true (by kernel_rfl))
            exact wp_val (.bool false) (by simp only [execOp, e]; rfl) (hK _ _ rfl (Below.refl _ _))
          · obtain rfl : (⟨some 45, .move (Operand.tmp 44), _, _, _, _⟩ : Oper) = o := Option.some.inj ho
            refine ask_plain rfl ?_
            have e : b.eval (.tmp 44) = .bool false := hv 1 44 (by kernel_rfl) (by kernel_rfl) (of_decide_eq_true (by kernel_rfl))
            exact wp_val _ rfl (hK _ _ e (Below.refl _ _))
          · obtain rfl : (⟨some 46, .load 25 (Operand.tmp 9), _, _, _, _⟩ : Oper) = o := Option.some.inj ho
            have hgd := hv 2 45 (by kernel_rfl) (by kernel_rfl) (of_decide_eq_true (by kernel_rfl))
            refine ask_yes 2 45 false rfl (by kernel_rfl) (by rw [hsize]; exact (of_decide_eq_true (by kernel_rfl))) hgd ?_
            have e1 : b.eval (.tmp 9) = .pointer (some ⟨w4.heap.size, 0, none⟩) := (hstood 9 (by kernel_rfl)).trans rfl
            exact wp_load_cells 25 (.tmp 9) rfl ⟨w4.heap.size, 0, none⟩ e1 (V8 Z) (.array 32 5) rfl (fun j v hj => by rw [add_zero_off, Joins.cell_of_block ((hbel.block _ (Array.getElem?_eq_some_iff.1 Z5.out).1).trans Z5.out)]; exact hj) Try.underlying25 HSZ.out (hK _ _ rfl (Below.refl _ _))
          · obtain rfl : (⟨some 47, .move (Operand.tmp 0), _, _, _, _⟩ : Oper) = o := Option.some.inj ho
            have hgd := hv 2 45 (by kernel_rfl) (by kernel_rfl) (of_decide_eq_true (by kernel_rfl))
            refine ask_yes 2 45 false rfl (by kernel_rfl) (by rw [hsize]; exact (of_decide_eq_true (by kernel_rfl))) hgd ?_
            have e : b.eval (.tmp 0) = .slice (some ad) n c1 := (hstood 0 (by kernel_rfl)).trans rfl
            exact wp_val _ rfl (hK _ _ e (Below.refl _ _))
          · obtain rfl : (⟨some 48, .move (Operand.tmp 8), _, _, _, _⟩ : Oper) = o := Option.some.inj ho
            have hgd := hv 2 45 (by kernel_rfl) (by kernel_rfl) (of_decide_eq_true (by kernel_rfl))
            refine ask_yes 2 45 false rfl (by kernel_rfl) (by rw [hsize]; exact (of_decide_eq_true (by kernel_rfl))) hgd ?_
            have e : b.eval (.tmp 8) = .int .i64 (i : Int) := (hstood 8 (by kernel_rfl)).trans rfl
            exact wp_val _ rfl (hK _ _ e (Below.refl _ _))
          · obtain rfl : (⟨some 49, .binOp BinOp.add 3 (Operand.tmp 48) (Operand.const (Value.int IntKind.i64 1)) 3, _, _, _, _⟩ : Oper) = o := Option.some.inj ho
            have hgd := hv 2 45 (by kernel_rfl) (by kernel_rfl) (of_decide_eq_true (by kernel_rfl))
            refine ask_yes 2 45 false rfl (by kernel_rfl) (by rw [hsize]; exact (of_decide_eq_true (by kernel_rfl))) hgd ?_
            have e : b.eval (.tmp 48) = .int .i64 (i : Int) := hv 5 48 (by kernel_rfl) (by kernel_rfl) (of_decide_eq_true (by kernel_rfl))
            exact wp_val (.int .i64 ((i + 1 : Nat) : Int)) (by simp only [execOp, e]; simp [go_sem, HW.out]) (hK _ _ rfl (Below.refl _ _))
          · obtain rfl : (⟨some 50, .slice 22 (Operand.tmp 47) none (some (Operand.tmp 49)) none, _, _, _, _⟩ : Oper) = o := Option.some.inj ho
            have hgd := hv 2 45 (by kernel_rfl) (by kernel_rfl) (of_decide_eq_true (by kernel_rfl))
            refine ask_yes 2 45 false rfl (by kernel_rfl) (by rw [hsize]; exact (of_decide_eq_true (by kernel_rfl))) hgd ?_
            have e1 : b.eval (.tmp 47) = .slice (some ad) n c1 := hv 4 47 (by kernel_rfl) (by kernel_rfl) (of_decide_eq_true (by kernel_rfl))
            have e2 : b.eval (.tmp 49) = .int .i64 ((i + 1 : Nat) : Int) := hv 6 49 (by kernel_rfl) (by kernel_rfl) (of_decide_eq_true (by kernel_rfl))
            have hf := slice22 (some ad) n c1 (i + 1) (by omega) w1
            exact wp_val (.slice (some ad) (i + 1) c1) (by simp only [execOp, e1, e2, hf, Option.map_some, Option.map_none, Sem.run_bind, Result.andThen]; rfl) (hK _ _ rfl (Below.refl _ _))
          · obtain rfl : (⟨some 51, .call { callee := (Callee.value (Operand.func 26)), args := #[(Operand.tmp 50)], argTypes := #[22] }, _, _, _, _⟩ : Oper) = o := Option.some.inj ho
            have hgd := hv 2 45 (by kernel_rfl) (by kernel_rfl) (of_decide_eq_true (by kernel_rfl))
            refine ask_yes 2 45 false rfl (by kernel_rfl) (by rw [hsize]; exact (of_decide_eq_true (by kernel_rfl))) hgd ?_
            have e1 : b.eval (.tmp 50) = .slice (some ad) (i + 1) c1 := hv 7 50 (by kernel_rfl) (by kernel_rfl) (of_decide_eq_true (by kernel_rfl))
            refine wp_call_fn 26 #[.tmp 50] #[22] rfl Try.f26 _ Try.func26 (by kernel_rfl) rfl #[.slice (some ad) (i + 1) c1] (by simp [e1]) ((RS.out w1 hbel).mono ?_)
            rintro e w2 ⟨rfl, hb2⟩
            exact ⟨_, rfl, hK _ _ rfl hb2⟩
          · obtain rfl : (⟨some 52, .binOp BinOp.neq 25 (Operand.tmp 46) (Operand.tmp 51) 25, _, _, _, _⟩ : Oper) = o := Option.some.inj ho
            have hgd := hv 2 45 (by kernel_rfl) (by kernel_rfl) (of_decide_eq_true (by kernel_rfl))
            refine ask_yes 2 45 false rfl (by kernel_rfl) (by rw [hsize]; exact (of_decide_eq_true (by kernel_rfl))) hgd ?_
            have e1 : b.eval (.tmp 46) = .agg (V8 Z) := hv 3 46 (by kernel_rfl) (by kernel_rfl) (of_decide_eq_true (by kernel_rfl))
            have e2 : b.eval (.tmp 51) = .agg (V8 Z) := hv 8 51 (by kernel_rfl) (by kernel_rfl) (of_decide_eq_true (by kernel_rfl))
            exact wp_val (.bool false) (by simp only [execOp, e1, e2]; simp [go_sem, HEQ.out]) (hK _ _ rfl (Below.refl _ _))
        · intro vs w6 hp hb6
          have v0 : vs 0 = .int .i64 0 := hp 0 (by decide)
          have v1 : vs 1 = .bool false := hp 1 (by decide)
          have v2 : vs 2 = .bool false := hp 2 (by decide)
          have v3 : vs 3 = .agg (V8 Z) := hp 3 (by decide)
          have v4 : vs 4 = .slice (some ad) n c1 := hp 4 (by decide)
          have v5 : vs 5 = .int .i64 (i : Int) := hp 5 (by decide)
          have v6 : vs 6 = .int .i64 ((i + 1 : Nat) : Int) := hp 6 (by decide)
          have v7 : vs 7 = .slice (some ad) (i + 1) c1 := hp 7 (by decide)
          have v8 : vs 8 = .agg (V8 Z) := hp 8 (by decide)
          have v9 : vs 9 = .bool false := hp 9 (by decide)
          change wpList _ _ _ [_] _ _
          simp only [putD, Act.put, List.setIfInBounds_toArray, List.set_cons_zero, List.set_cons_succ, v0, v1, v2, v3, v4, v5, v6, v7, v8, v9]
          have HB6 := Lib.hid (HB5.out.trans (hb6.mono HB5.out.size))
          have HA6 := Lib.hid (HA5.out.below hb6)
          clear v0 v1 v2 v3 v4 v5 v6 v7 v8 v9 hp hb6 HB5 HA5 Z5 RS
          by_cases hia : (i : Int) = at'
          · subst hia
            have CP := Lib.hid (hcopy_any g l1 w6 HA6.out)
            go_wp2_with fail
            refine CP.out.mono ?_
            rintro e w7 ⟨rfl, hat7, hb7⟩
            obtain ⟨g2, hg2⟩ : ∃ g2, w6.heap.size = g2 := ⟨_, rfl⟩
            rw [hg2] at hat7 ⊢
            have HB7 := Lib.hid (HB6.out.trans (hb7.mono HB6.out.size))
            have WR2 := Lib.hid (hwrite_any g2 l1 b2 ov w7 hat7 (HOV.out.below HB7.out) (by omega))
            have HB67 := Lib.hid hb7
            clear hb7 hat7 CP
            go_wp2_with fail
            refine WR2.out.mono ?_
            rintro e w8 ⟨rfl, hat8, hbes8⟩
            have hb68 : Below w6.heap.size w6 w8 := HB67.out.trans (hbes8.to_below (by omega) HB67.out.size)
            have S6 := Lib.hid (hsum_any g2 (l1 ++ b2) w8 hat8 (by rw [List.length_append]; omega))
            obtain ⟨Y, hY⟩ : ∃ Y, sumL (l1 ++ b2) = Y := ⟨_, rfl⟩
            have hYl : Y.length = 32 := by rw [← hY]; exact sumL_len _
            rw [hY] at S6
            have HB8 := Lib.hid (HB6.out.trans (hb68.mono HB6.out.size))
            have HA8 := Lib.hid (HA6.out.below hb68)
            have HY := Lib.hid hY
            have HYL := Lib.hid hYl
            have HSY := Lib.hid (show (Try.prog.info? 25).map (·.size) = some (V8 Y).size by rw [V8_size, hYl]; kernel_rfl)
            have HEQ2 := Lib.hid (fun w => eq_dig 25 Try.underlying25 Y Y hYl hYl w)
            rw [show (Y == Y) = true by simp] at HEQ2
            clear WR2 hat8 hbes8 hb68 HB67 HB6 HA6 hY hYl HB7
            go_wp2_with fail
            refine S6.out.mono ?_
            rintro e w9 ⟨rfl, hb9⟩
            have HB9 := Lib.hid (HB8.out.trans (hb9.mono HB8.out.size))
            have HA9 := Lib.hid (HA8.out.below hb9)
            clear S6 hb9 HB8 HA8
            go_upto_region 20 with (first | ((with_reducible show wpList _ _ _ (⟨none, .store 25 (.tmp 13) (.tmp 77), _, _, _, _⟩ :: _) _ _); rw [← HZ.out]; refine wpList_store_row rfl 25 (.tmp 13) (.tmp 77) rfl w9.heap.size (V8 Y) rfl rfl 25 _ (heap_new _ _ _ rfl) HSY.out (by rw [V8_size, HYL.out]; exact HZS.out) (V8_one _) ?_) | fail)
            generalize hW10 : (World.setRow _ _ _) = W10
            have b10 : Below w9.heap.size w9 W10 := by rw [← hW10]; exact below_setRow _ _ ((Below.refl _ _).alloc (Nat.le_refl _) _) (Nat.le_refl _)
            have Y10 := Lib.hid (show W10.heap[w9.heap.size]? = some (.cells (V8 Y) 25 (0, 0)) by rw [← hW10]; exact setRow_heap _ _ _ _ _ _ (heap_new _ _ _ rfl))
            have B10 := Lib.hid (HB9.out.trans (b10.mono HB9.out.size))
            have HA10 := Lib.hid (HA9.out.below b10)
            have hi35 := HI35.out
            have hz35 := HZ35.out
            have hs35 := HS35.out
            have RS2 := Lib.hid (show ∀ w1 A9 c9, RdN w1 A9 (qs.take (i + 1) ++ [b2]) → (qs.take (i + 1) ++ [b2]).length ≤ c9 → Calls Try.prog 26 #[.slice A9 (qs.take (i + 1) ++ [b2]).length c9] w1 fun e w' => e = .returned (.agg (V8 Y)) ∧ Below w1.heap.size w1 w' from fun w1 A9 c9 h1 h2 => by
              have hfl2 : (qs.take (i + 1) ++ [b2]).flatten = l1 ++ b2 := by rw [List.flatten_append, HL1.out]; simp
              have h := rsum_any (qs.take (i + 1) ++ [b2]) A9 c9 w1 h1 h2 (by rw [hfl2, List.length_append]; omega)
              rw [hfl2, HY.out] at h
              exact h)
            clear hW10 b10 HB9 HA9
            refine wp_region_use (w0 := _) 15 [some 79, some 80, some 81, some 82, some 83, some 84, some 85, some 86, some 87, some 88, some 89, some 90, some 91, some 92, some 93] (by kernel_rfl) (by kernel_rfl) (by kernel_rfl) (by kernel_rfl) (of_decide_eq_true (by kernel_rfl)) (by kernel_rfl) (pdQ (some ad) n c1 i Y wc W10.heap.size qs b2 ov) (fun i k => (i == 9 && k == 4) || (i == 12 && (k == 4 || k == 9 || k == 11))) (by kernel_rfl) ?_ ?_
            · intro ix hix o w1 b ho hbel hv hstood hsize K hK0
              have hK : ∀ u w', pdQ (some ad) n c1 i Y wc W10.heap.size qs b2 ov ix u w' → Below w1.heap.size w1 w' → K (b.put o.dst u) w' := fun u w' h hb => hK0 u w' h (fun k v _ _ _ h2 => pdQ_mono (some ad) n c1 i Y wc W10.heap.size qs b2 ov k v _ _ h2 hb) (hb.mono hbel.size)
              have hc : ix = 0 ∨ ix = 1 ∨ ix = 2 ∨ ix = 3 ∨ ix = 4 ∨ ix = 5 ∨ ix = 6 ∨ ix = 7 ∨ ix = 8 ∨ ix = 9 ∨ ix = 10 ∨ ix = 11 ∨ ix = 12 ∨ ix = 13 ∨ ix = 14 := by omega
              rcases hc with rfl | rfl | rfl | rfl | rfl | rfl | rfl | rfl | rfl | rfl | rfl | rfl | rfl | rfl | rfl
              · obtain rfl : (⟨some 79, .move (Operand.tmp 14), _, _, _, _⟩ : Oper) = o := Option.some.inj ho
                refine ask_plain rfl ?_
                have e : b.eval (.tmp 14) = .int .i64 0 := (hstood 14 (by kernel_rfl)).trans rfl
                exact wp_val _ rfl (hK _ _ e (Below.refl _ _))
              · obtain rfl : (⟨some 80, .binOp BinOp.neq 44 (Operand.tmp 79) (Operand.const (Value.int IntKind.i64 0)) 44, _, _, _, _⟩ : Oper) = o := Option.some.inj ho
                refine ask_plain rfl ?_
                have e : b.eval (.tmp 79) = .int .i64 0 := hv 0 79 (by kernel_rfl) (by kernel_rfl) (of_decide_eq_true (by kernel_rfl))
                exact wp_val (.bool false) (by simp only [execOp, e]; rfl) (hK _ _ rfl (Below.refl _ _))
              · obtain rfl : (⟨some 81, .move (Operand.tmp 80), _, _, _, _⟩ : Oper) = o := Option.some.inj ho
                refine ask_plain rfl ?_
                have e : b.eval (.tmp 80) = .bool false := hv 1 80 (by kernel_rfl) (by kernel_rfl) (of_decide_eq_true (by kernel_rfl))
                exact wp_val _ rfl (hK _ _ e (Below.refl _ _))
              · obtain rfl : (⟨some 82, .load 25 (Operand.tmp 13), _, _, _, _⟩ : Oper) = o := Option.some.inj ho
                have hgd := hv 2 81 (by kernel_rfl) (by kernel_rfl) (of_decide_eq_true (by kernel_rfl))
                refine ask_yes 2 81 false rfl (by kernel_rfl) (by rw [hsize]; exact (of_decide_eq_true (by kernel_rfl))) hgd ?_
                have e1 : b.eval (.tmp 13) = .pointer (some ⟨w9.heap.size, 0, none⟩) := (hstood 13 (by kernel_rfl)).trans rfl
                exact wp_load_cells 25 (.tmp 13) rfl ⟨w9.heap.size, 0, none⟩ e1 (V8 Y) (.array 32 5) rfl (fun j v hj => by rw [add_zero_off, Joins.cell_of_block ((hbel.block _ (Array.getElem?_eq_some_iff.1 Y10.out).1).trans Y10.out)]; exact hj) Try.underlying25 HSY.out (hK _ _ rfl (Below.refl _ _))
              · obtain rfl : (⟨some 83, .buildSlice 22 0 #[], _, _, _, _⟩ : Oper) = o := Option.some.inj ho
                have hgd := hv 2 81 (by kernel_rfl) (by kernel_rfl) (of_decide_eq_true (by kernel_rfl))
                refine ask_yes 2 81 false rfl (by kernel_rfl) (by rw [hsize]; exact (of_decide_eq_true (by kernel_rfl))) hgd ?_
                exact wp_buildSlice0 22 35 rfl i35 Try.underlying22 hi35 (hK _ _ ⟨_, rfl, hbel.size, heap_new _ _ _ rfl⟩ (below_alloc1 _ _))
              · obtain rfl : (⟨some 84, .move (Operand.tmp 0), _, _, _, _⟩ : Oper) = o := Option.some.inj ho
                have hgd := hv 2 81 (by kernel_rfl) (by kernel_rfl) (of_decide_eq_true (by kernel_rfl))
                refine ask_yes 2 81 false rfl (by kernel_rfl) (by rw [hsize]; exact (of_decide_eq_true (by kernel_rfl))) hgd ?_
                have e : b.eval (.tmp 0) = .slice (some ad) n c1 := (hstood 0 (by kernel_rfl)).trans rfl
                exact wp_val _ rfl (hK _ _ e (Below.refl _ _))
              · obtain rfl : (⟨some 85, .move (Operand.tmp 8), _, _, _, _⟩ : Oper) = o := Option.some.inj ho
                have hgd := hv 2 81 (by kernel_rfl) (by kernel_rfl) (of_decide_eq_true (by kernel_rfl))
                refine ask_yes 2 81 false rfl (by kernel_rfl) (by rw [hsize]; exact (of_decide_eq_true (by kernel_rfl))) hgd ?_
                have e : b.eval (.tmp 8) = .int .i64 (i : Int) := (hstood 8 (by kernel_rfl)).trans rfl
                exact wp_val _ rfl (hK _ _ e (Below.refl _ _))
              · obtain rfl : (⟨some 86, .binOp BinOp.add 3 (Operand.tmp 85) (Operand.const (Value.int IntKind.i64 1)) 3, _, _, _, _⟩ : Oper) = o := Option.some.inj ho
                have hgd := hv 2 81 (by kernel_rfl) (by kernel_rfl) (of_decide_eq_true (by kernel_rfl))
                refine ask_yes 2 81 false rfl (by kernel_rfl) (by rw [hsize]; exact (of_decide_eq_true (by kernel_rfl))) hgd ?_
                have e : b.eval (.tmp 85) = .int .i64 (i : Int) := hv 6 85 (by kernel_rfl) (by kernel_rfl) (of_decide_eq_true (by kernel_rfl))
                exact wp_val (.int .i64 ((i + 1 : Nat) : Int)) (by simp only [execOp, e]; simp [go_sem, HW.out]) (hK _ _ rfl (Below.refl _ _))
              · obtain rfl : (⟨some 87, .slice 22 (Operand.tmp 84) none (some (Operand.tmp 86)) none, _, _, _, _⟩ : Oper) = o := Option.some.inj ho
                have hgd := hv 2 81 (by kernel_rfl) (by kernel_rfl) (of_decide_eq_true (by kernel_rfl))
                refine ask_yes 2 81 false rfl (by kernel_rfl) (by rw [hsize]; exact (of_decide_eq_true (by kernel_rfl))) hgd ?_
                have e1 : b.eval (.tmp 84) = .slice (some ad) n c1 := hv 5 84 (by kernel_rfl) (by kernel_rfl) (of_decide_eq_true (by kernel_rfl))
                have e2 : b.eval (.tmp 86) = .int .i64 ((i + 1 : Nat) : Int) := hv 7 86 (by kernel_rfl) (by kernel_rfl) (of_decide_eq_true (by kernel_rfl))
                have hf := slice22 (some ad) n c1 (i + 1) (by omega) w1
                exact wp_val (.slice (some ad) (i + 1) c1) (by simp only [execOp, e1, e2, hf, Option.map_some, Option.map_none, Sem.run_bind, Result.andThen]; rfl) (hK _ _ rfl (Below.refl _ _))
              · obtain rfl : (⟨some 88, .call { callee := (Callee.builtin Builtin.append), args := #[(Operand.tmp 83), (Operand.tmp 87)], argTypes := #[22, 22] }, _, _, _, _⟩ : Oper) = o := Option.some.inj ho
                have hgd := hv 2 81 (by kernel_rfl) (by kernel_rfl) (of_decide_eq_true (by kernel_rfl))
                refine ask_yes 2 81 false rfl (by kernel_rfl) (by rw [hsize]; exact (of_decide_eq_true (by kernel_rfl))) hgd ?_
                obtain ⟨g4, e1, hg4, hz4⟩ : ∃ g, b.eval (.tmp 83) = .slice (some ⟨g, 0, none⟩) 0 0 ∧ W10.heap.size ≤ g ∧ w1.heap[g]? = some (.cells #[] 35 (0, 0)) := hv 4 83 (by kernel_rfl) (by kernel_rfl) (of_decide_eq_true (by kernel_rfl))
                have e2 : b.eval (.tmp 87) = .slice (some ad) (i + 1) c1 := hv 8 87 (by kernel_rfl) (by kernel_rfl) (of_decide_eq_true (by kernel_rfl))
                have hown : OwnP wc w1 W10.heap.size (.slice (some ⟨g4, 0, none⟩) 0 0) [] := ⟨[], own_zero hz4 hg4, fun j hj => by simp at hj⟩
                have hrt := HRT.out
                refine wp_append_rows (.tmp 83) (.tmp 87) rfl W10.heap.size _ [] e1 hown ad c1 (qs.take (i + 1)) (by rw [HTL.out]; exact e2) hrt ((B10.out.trans (hbel.mono B10.out.size)).mono (Nat.le_refl _)) (by rw [HTL.out]; omega) (by rw [HTL.out]; simp; omega) hbel.size ?_
                intro v' w' hown' hb' hgr
                rw [List.nil_append] at hown'
                refine hK0 _ _ hown' (fun k v hk hnd hgo h => ?_) hb'
                match k, h with
                | 0, h => exact h
                | 1, h => exact h
                | 2, h => exact h
                | 3, h => exact h
                | 4, h => cases hgo
                | 5, h => exact h
                | 6, h => exact h
                | 7, h => exact h
                | 8, h => exact h
                | 9, h => exact absurd rfl hk
                | 10, h => exact h
                | 11, h => (obtain ⟨g1, e3, hz1⟩ := h; exact ⟨g1, e3, keep_one hgr hz4 hz1⟩)
                | 12, h => (rw [show needsB _ 12 9 = true by kernel_rfl] at hnd; cases hnd)
                | 13, h => exact h
                | 14, h => exact h
                | _ + 15, _ => trivial
              · obtain rfl : (⟨some 89, .move (Operand.tmp 2), _, _, _, _⟩ : Oper) = o := Option.some.inj ho
                have hgd := hv 2 81 (by kernel_rfl) (by kernel_rfl) (of_decide_eq_true (by kernel_rfl))
                refine ask_yes 2 81 false rfl (by kernel_rfl) (by rw [hsize]; exact (of_decide_eq_true (by kernel_rfl))) hgd ?_
                have e : b.eval (.tmp 2) = ov := (hstood 2 (by kernel_rfl)).trans rfl
                exact wp_val _ rfl (hK _ _ e (Below.refl _ _))
              · obtain rfl : (⟨some 90, .buildSlice 22 1 #[(0, (Operand.tmp 89))], _, _, _, _⟩ : Oper) = o := Option.some.inj ho
                have hgd := hv 2 81 (by kernel_rfl) (by kernel_rfl) (of_decide_eq_true (by kernel_rfl))
                refine ask_yes 2 81 false rfl (by kernel_rfl) (by rw [hsize]; exact (of_decide_eq_true (by kernel_rfl))) hgd ?_
                have e1 : b.eval (.tmp 89) = ov := hv 10 89 (by kernel_rfl) (by kernel_rfl) (of_decide_eq_true (by kernel_rfl))
                refine wp_buildSlice 22 35 1 _ rfl #[ov] i35 (.slice none 0 0) Try.underlying22 hi35 hz35 (by rw [hs35]; decide) (by rw [hs35]; decide) (by rw [hs35]; simp only [List.map_toArray, List.map_cons, List.map_nil, e1]; exact HFI.out) (hK _ _ ⟨_, rfl, heap_new _ _ _ rfl⟩ (below_alloc1 _ _))
              · obtain rfl : (⟨some 91, .call { callee := (Callee.builtin Builtin.append), args := #[(Operand.tmp 88), (Operand.tmp 90)], argTypes := #[22, 22] }, _, _, _, _⟩ : Oper) = o := Option.some.inj ho
                have hgd := hv 2 81 (by kernel_rfl) (by kernel_rfl) (of_decide_eq_true (by kernel_rfl))
                refine ask_yes 2 81 false rfl (by kernel_rfl) (by rw [hsize]; exact (of_decide_eq_true (by kernel_rfl))) hgd ?_
                have hown : OwnP wc w1 W10.heap.size (b.eval (.tmp 88)) (qs.take (i + 1)) := hv 9 88 (by kernel_rfl) (by kernel_rfl) (of_decide_eq_true (by kernel_rfl))
                obtain ⟨g1, e2, hz1⟩ : ∃ g, b.eval (.tmp 90) = .slice (some ⟨g, 0, none⟩) 1 1 ∧ w1.heap[g]? = some (.cells #[ov] 35 (0, 0)) := hv 11 90 (by kernel_rfl) (by kernel_rfl) (of_decide_eq_true (by kernel_rfl))
                refine wp_append_row1 (.tmp 88) (.tmp 90) rfl W10.heap.size _ (qs.take (i + 1)) rfl hown g1 b2 ov e2 (by rw [Joins.cell_of_block hz1]; rfl) HOV.out (by rw [HTL.out]; omega) hbel.size ?_
                intro v' w' hown' hb'
                refine hK0 _ _ hown' (fun k v hk hnd hgo h => ?_) hb'
                match k, h with
                | 0, h => exact h
                | 1, h => exact h
                | 2, h => exact h
                | 3, h => exact h
                | 4, h => cases hgo
                | 5, h => exact h
                | 6, h => exact h
                | 7, h => exact h
                | 8, h => exact h
                | 9, h => cases hgo
                | 10, h => exact h
                | 11, h => cases hgo
                | 12, h => exact absurd rfl hk
                | 13, h => exact h
                | 14, h => exact h
                | _ + 15, _ => trivial
              · obtain rfl : (⟨some 92, .call { callee := (Callee.value (Operand.func 26)), args := #[(Operand.tmp 91)], argTypes := #[22] }, _, _, _, _⟩ : Oper) = o := Option.some.inj ho
                have hgd := hv 2 81 (by kernel_rfl) (by kernel_rfl) (of_decide_eq_true (by kernel_rfl))
                refine ask_yes 2 81 false rfl (by kernel_rfl) (by rw [hsize]; exact (of_decide_eq_true (by kernel_rfl))) hgd ?_
                have hown : OwnP wc w1 W10.heap.size (b.eval (.tmp 91)) (qs.take (i + 1) ++ [b2]) := hv 12 91 (by kernel_rfl) (by kernel_rfl) (of_decide_eq_true (by kernel_rfl))
                obtain ⟨A9, c9, e9, hc9, hr9⟩ := hown.rd (B10.out.trans (hbel.mono B10.out.size))
                have hcall := RS2.out w1 A9 c9 hr9 hc9
                rw [← e9] at hcall
                refine wp_call_fn 26 #[.tmp 91] #[22] rfl Try.f26 _ Try.func26 (by kernel_rfl) rfl #[b.eval (.tmp 91)] (by simp) (hcall.mono ?_)
                rintro e w2 ⟨rfl, hb2⟩
                exact ⟨_, rfl, hK _ _ rfl hb2⟩
              · obtain rfl : (⟨some 93, .binOp BinOp.neq 25 (Operand.tmp 82) (Operand.tmp 92) 25, _, _, _, _⟩ : Oper) = o := Option.some.inj ho
                have hgd := hv 2 81 (by kernel_rfl) (by kernel_rfl) (of_decide_eq_true (by kernel_rfl))
                refine ask_yes 2 81 false rfl (by kernel_rfl) (by rw [hsize]; exact (of_decide_eq_true (by kernel_rfl))) hgd ?_
                have e1 : b.eval (.tmp 82) = .agg (V8 Y) := hv 3 82 (by kernel_rfl) (by kernel_rfl) (of_decide_eq_true (by kernel_rfl))
                have e2 : b.eval (.tmp 92) = .agg (V8 Y) := hv 13 92 (by kernel_rfl) (by kernel_rfl) (of_decide_eq_true (by kernel_rfl))
                exact wp_val (.bool false) (by simp only [execOp, e1, e2]; simp [go_sem, HEQ2.out]) (hK _ _ rfl (Below.refl _ _))
            · intro vs w11 hp hb11
              have ok : ∀ k, k ∈ [0, 1, 2, 3, 5, 6, 7, 8, 10, 13, 14] → ∀ j, j < 15 → (fun i k => (i == 9 && k == 4) || (i == 12 && (k == 4 || k == 9 || k == 11))) j k = false := by decide
              have v0 : vs 0 = .int .i64 0 := hp 0 (by decide) (ok 0 (by decide))
              have v1 : vs 1 = .bool false := hp 1 (by decide) (ok 1 (by decide))
              have v2 : vs 2 = .bool false := hp 2 (by decide) (ok 2 (by decide))
              have v3 : vs 3 = .agg (V8 Y) := hp 3 (by decide) (ok 3 (by decide))
              have v5 : vs 5 = .slice (some ad) n c1 := hp 5 (by decide) (ok 5 (by decide))
              have v6 : vs 6 = .int .i64 (i : Int) := hp 6 (by decide) (ok 6 (by decide))
              have v7 : vs 7 = .int .i64 ((i + 1 : Nat) : Int) := hp 7 (by decide) (ok 7 (by decide))
              have v8 : vs 8 = .slice (some ad) (i + 1) c1 := hp 8 (by decide) (ok 8 (by decide))
              have v10 : vs 10 = ov := hp 10 (by decide) (ok 10 (by decide))
              have v13 : vs 13 = .agg (V8 Y) := hp 13 (by decide) (ok 13 (by decide))
              have v14 : vs 14 = .bool false := hp 14 (by decide) (ok 14 (by decide))
              change wpList _ _ _ [_] _ _
              simp only [putD, Act.put, List.setIfInBounds_toArray, List.set_cons_zero, List.set_cons_succ, v0, v1, v2, v3, v5, v6, v7, v8, v10, v13, v14]
              generalize vs 4 = x4, vs 9 = x9, vs 11 = x11, vs 12 = x12
              have HB11 := Lib.hid (B10.out.trans (hb11.mono B10.out.size))
              have HA11 := Lib.hid (HA10.out.below hb11)
              clear v0 v1 v2 v3 v5 v6 v7 v8 v10 v13 v14 hp hb11 B10 HA10 Y10 RS2 ok
              go_wp2
              go_roundg (n - (i + 1))
              case measure => omega
              case rel => exact ⟨i + 1, rfl, by omega, by go_num, by rw [HL1.out]; exact HA11.out, HB11.out⟩
          · have hia2 : decide ((i : Int) = at') = false := by simpa using hia
            have hia3 : ((i : Int) == at') = false := by simpa using hia
            clear hat' hia
            go_wp2
            go_roundg (n - (i + 1))
            case measure => omega
            case rel => exact ⟨i + 1, rfl, by omega, by go_num, by rw [HL1.out]; exact HA6.out, HB6.out⟩
      · have AL := Lib.hid (alive_any wr)
        have HB := Lib.hid (HB1.out.trans (hbw.mono HB1.out.size))
        clear hbw hat
        go_wp2_with (first | (go_at_call 27; refine AL.out.mono ?_; rintro e w8 ⟨rfl, hb8⟩) | fail)
        go_ret
        exact ⟨rfl, HB.out.trans (hb8.mono HB.out.size)⟩
end Go.Proofs.Ytjaakhjfpigdfaa
