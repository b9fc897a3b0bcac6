import Derived.Test.YtjaakhjfpigdfaaGC
/-! FrameMeets. -/
namespace Go.Proofs.Ytjaakhjfpigdfaa
open Go.RowKit
set_option linter.unusedVariables false
set_option linter.unusedSimpArgs false
theorem ask_undef {ops : Array Oper} {o : Oper} {b : Act} {p q : Prop} (j : Nat) (t : Tmp) (v : Bool) (hg : o.guard = some (j, v)) (hd : dstAt ops j = some t) (hs : t < b.tmps.size) (he : b.eval (.tmp t) = undef) (h : q) : if Region.wanted o (yielded ops b.tmps) = true then p else q := by
  have hy : yielded ops b.tmps j = none := by
    unfold yielded
    unfold dstAt at hd
    rw [hd]
    simp only [Option.bind_some]
    have h2 : b.tmps[t]? = some undef := by
      have h3 : b.tmps.getD t undef = undef := he
      rw [Array.getD_eq_getD_getElem?] at h3
      rw [Array.getElem?_eq_getElem hs] at h3 ⊢
      simpa using h3
    rw [h2]
    rfl
  rw [if_neg (by unfold Region.wanted; rw [hg]; simp [hy])]
  exact h
theorem load4 (a : Addr) (x : Bool) (w : World) (h : w.cell? a = some (.bool x)) : (do pure (Next.value (← Instr.loadAt 4 (.pointer (some a)))) : Sem Next).run Try.prog w = .ok (.value (.bool x)) w := by
  simp [go_sem, h]
set_option maxRecDepth 100000 in
theorem field92 (g k : Nat) (h : k < 5) (w : World) : (Instr.fieldAt 92 (.pointer (some ⟨g, 0, none⟩)) k).run Try.prog w = .ok (.pointer (some ⟨g, k, none⟩)) w := by
  have hc : k = 0 ∨ k = 1 ∨ k = 2 ∨ k = 3 ∨ k = 4 := by omega
  rcases hc with rfl | rfl | rfl | rfl | rfl <;> simp [go_sem, Instr.fieldAt]
set_option maxRecDepth 100000 in
theorem eq92 (a b c : Bool) (d : Int) (e : Bool) (w : World) : (Op.equalIn 10000 92 (.agg #[.bool a, .bool b, .bool c, .int .i64 d, .bool e]) (.agg #[.bool a, .bool b, .bool c, .int .i64 d, .bool e])).run Try.prog w = .ok true w := by
  simp [go_sem]
def pdMT (me peer : BitVec 64) (vow mx ep : Int) (st nw mn : Bool) (FC : Array Value) (g7 g9 : Nat) : Nat → Value → World → Prop
  | 0 => fun v w => v = .agg #[.bool false, .bool nw, .bool true, .int .i64 mx, .bool true]
  | 1 => fun v w => v = .int .u64 (me.toNat : Int)
  | 2 => fun v w => v = .int .u64 (peer.toNat : Int)
  | 3 => fun v w => v = .int .i64 vow
  | 4 => fun v w => v = .agg FC
  | 5 => fun v w => v = .agg #[.bool false, .bool nw, .bool true, .int .i64 mx, .bool true]
  | 6 => fun v w => v = .bool true
  | 7 => fun v w => v = .bool true
  | 8 => fun v w => v = .pointer (some ⟨g9, 3, none⟩)
  | 9 => fun v w => v = .int .i64 mx
  | 10 => fun v w => v = .int .i64 vow
  | 11 => fun v w => v = .bool true
  | 12 => fun v w => v = .bool true
  | 13 => fun v w => v = .bool true
  | 14 => fun v w => v = .pointer (some ⟨g9, 4, none⟩)
  | 15 => fun v w => v = .bool true
  | 16 => fun v w => v = .bool false
  | 17 => fun v w => v = .bool false
  | 18 => fun v w => v = .pointer (some ⟨g7, 1, none⟩)
  | 19 => fun v w => v = .int .i64 ep
  | 20 => fun v w => v = .int .i64 vow
  | 21 => fun v w => v = .bool true
  | 22 => fun v w => v = .bool true
  | 23 => fun v w => v = .pointer (some ⟨g9, 2, none⟩)
  | 24 => fun v w => v = .bool true
  | 25 => fun v w => v = .bool true
  | 26 => fun v w => v = .bool true
  | 27 => fun v w => v = .pointer (some ⟨g9, 0, none⟩)
  | 28 => fun v w => v = .bool false
  | 29 => fun v w => v = .bool true
  | 30 => fun v w => v = .bool true
  | 31 => fun v w => v = .bool true
  | 32 => fun v w => v = .bool true
  | 33 => fun v w => v = .bool true
  | 34 => fun v w => v = .bool true
  | 35 => fun v w => v = .bool true
  | _ => fun _ _ => True
theorem pdMT_mono (me peer : BitVec 64) (vow mx ep : Int) (st nw mn : Bool) (FC : Array Value) (g7 g9 : Nat) : ∀ q0 v w w', pdMT me peer vow mx ep st nw mn FC g7 g9 q0 v w → Below w.heap.size w w' → pdMT me peer vow mx ep st nw mn FC g7 g9 q0 v w'
  | 0, _, _, _, h, _ => h
  | 1, _, _, _, h, _ => h
  | 2, _, _, _, h, _ => h
  | 3, _, _, _, h, _ => h
  | 4, _, _, _, h, _ => h
  | 5, _, _, _, h, _ => h
  | 6, _, _, _, h, _ => h
  | 7, _, _, _, h, _ => h
  | 8, _, _, _, h, _ => h
  | 9, _, _, _, h, _ => h
  | 10, _, _, _, h, _ => h
  | 11, _, _, _, h, _ => h
  | 12, _, _, _, h, _ => h
  | 13, _, _, _, h, _ => h
  | 14, _, _, _, h, _ => h
  | 15, _, _, _, h, _ => h
  | 16, _, _, _, h, _ => h
  | 17, _, _, _, h, _ => h
  | 18, _, _, _, h, _ => h
  | 19, _, _, _, h, _ => h
  | 20, _, _, _, h, _ => h
  | 21, _, _, _, h, _ => h
  | 22, _, _, _, h, _ => h
  | 23, _, _, _, h, _ => h
  | 24, _, _, _, h, _ => h
  | 25, _, _, _, h, _ => h
  | 26, _, _, _, h, _ => h
  | 27, _, _, _, h, _ => h
  | 28, _, _, _, h, _ => h
  | 29, _, _, _, h, _ => h
  | 30, _, _, _, h, _ => h
  | 31, _, _, _, h, _ => h
  | 32, _, _, _, h, _ => h
  | 33, _, _, _, h, _ => h
  | 34, _, _, _, h, _ => h
  | 35, _, _, _, h, _ => h
  | _ + 36, _, _, _, _, _ => trivial
def pdMF (me peer : BitVec 64) (vow mx ep : Int) (st nw mn : Bool) (FC : Array Value) (g7 g9 : Nat) : Nat → Value → World → Prop
  | 0 => fun v w => v = .agg #[.bool st, .bool nw, .bool mn, .int .i64 mx, .bool false]
  | 1 => fun v w => v = .int .u64 (me.toNat : Int)
  | 2 => fun v w => v = .int .u64 (peer.toNat : Int)
  | 3 => fun v w => v = .int .i64 vow
  | 4 => fun v w => v = .agg FC
  | 5 => fun v w => v = .agg #[.bool st, .bool nw, .bool mn, .int .i64 mx, .bool false]
  | 6 => fun v w => v = .bool true
  | 7 => fun v w => v = .bool true
  | 8 => fun v w => v = .pointer (some ⟨g9, 3, none⟩)
  | 9 => fun v w => v = .int .i64 mx
  | 10 => fun v w => v = .int .i64 vow
  | 11 => fun v w => v = .bool true
  | 12 => fun v w => v = .bool true
  | 13 => fun v w => v = .bool true
  | 14 => fun v w => v = .pointer (some ⟨g9, 4, none⟩)
  | 15 => fun v w => v = .bool false
  | 16 => fun v w => v = .bool true
  | 17 => fun v w => v = .bool true
  | 18 => fun v w => v = undef
  | 19 => fun v w => v = undef
  | 20 => fun v w => v = undef
  | 21 => fun v w => v = undef
  | 22 => fun v w => v = undef
  | 23 => fun v w => v = undef
  | 24 => fun v w => v = undef
  | 25 => fun v w => v = undef
  | 26 => fun v w => v = undef
  | 27 => fun v w => v = undef
  | 28 => fun v w => v = undef
  | 29 => fun v w => v = undef
  | 30 => fun v w => v = undef
  | 31 => fun v w => v = .bool true
  | 32 => fun v w => v = .bool true
  | 33 => fun v w => v = .bool true
  | 34 => fun v w => v = .bool true
  | 35 => fun v w => v = .bool true
  | _ => fun _ _ => True
theorem pdMF_mono (me peer : BitVec 64) (vow mx ep : Int) (st nw mn : Bool) (FC : Array Value) (g7 g9 : Nat) : ∀ q0 v w w', pdMF me peer vow mx ep st nw mn FC g7 g9 q0 v w → Below w.heap.size w w' → pdMF me peer vow mx ep st nw mn FC g7 g9 q0 v w'
  | 0, _, _, _, h, _ => h
  | 1, _, _, _, h, _ => h
  | 2, _, _, _, h, _ => h
  | 3, _, _, _, h, _ => h
  | 4, _, _, _, h, _ => h
  | 5, _, _, _, h, _ => h
  | 6, _, _, _, h, _ => h
  | 7, _, _, _, h, _ => h
  | 8, _, _, _, h, _ => h
  | 9, _, _, _, h, _ => h
  | 10, _, _, _, h, _ => h
  | 11, _, _, _, h, _ => h
  | 12, _, _, _, h, _ => h
  | 13, _, _, _, h, _ => h
  | 14, _, _, _, h, _ => h
  | 15, _, _, _, h, _ => h
  | 16, _, _, _, h, _ => h
  | 17, _, _, _, h, _ => h
  | 18, _, _, _, h, _ => h
  | 19, _, _, _, h, _ => h
  | 20, _, _, _, h, _ => h
  | 21, _, _, _, h, _ => h
  | 22, _, _, _, h, _ => h
  | 23, _, _, _, h, _ => h
  | 24, _, _, _, h, _ => h
  | 25, _, _, _, h, _ => h
  | 26, _, _, _, h, _ => h
  | 27, _, _, _, h, _ => h
  | 28, _, _, _, h, _ => h
  | 29, _, _, _, h, _ => h
  | 30, _, _, _, h, _ => h
  | 31, _, _, _, h, _ => h
  | 32, _, _, _, h, _ => h
  | 33, _, _, _, h, _ => h
  | 34, _, _, _, h, _ => h
  | 35, _, _, _, h, _ => h
  | _ + 36, _, _, _, _, _ => trivial
set_option maxRecDepth 100000 in
set_option maxHeartbeats 8000000 in
theorem frameMeets_true (me peer : BitVec 64) (vow : Int) (f : Fr) (A : Option Addr) (c : Nat) (w : World) (hv : -9223372036854775808 ≤ vow ∧ vow ≤ 9223372036854775807) (hr : RdB w A f.body) (hl : f.body.length ≤ c) (hn : A = none → c = 0) : Calls Try.prog 21 #[.int .u64 (me.toNat : Int), .int .u64 (peer.toNat : Int), .int .i64 vow, frV f (.slice A f.body.length c)] w fun e w' => e = .returned (.bool true) ∧ Below w.heap.size w w' := by
  have M := fun w' => meet_any me peer vow f (.slice A f.body.length c) w'
  have RM := fun w' => rmeet_any me peer vow f (.slice A f.body.length c) w'
  have hst : (decide (peer.toNat ≤ f.me.toNat) && (f.you == me) && decide (vow ≤ f.ep)) = true → decide (f.me.toNat < peer.toNat) = false ∧ (f.you == me) = true ∧ decide (vow ≤ f.ep) = true := by
    intro h
    simp only [Bool.and_eq_true, decide_eq_true_eq] at h
    exact ⟨by simp; omega, h.1.2, by simp [h.2]⟩
  have hmx : decide (vow ≤ max vow f.ep) = true := by simp; omega
  obtain ⟨st, h1⟩ : ∃ b, decide (f.me.toNat < peer.toNat) = b := ⟨_, rfl⟩
  obtain ⟨nw, h2⟩ : ∃ b, decide (peer.toNat < f.me.toNat) = b := ⟨_, rfl⟩
  obtain ⟨mx, h4⟩ : ∃ b, max vow f.ep = b := ⟨_, rfl⟩
  obtain ⟨tk, h5⟩ : ∃ b, (decide (peer.toNat ≤ f.me.toNat) && (f.you == me) && decide (vow ≤ f.ep)) = b := ⟨_, rfl⟩
  obtain ⟨mn, h3⟩ : ∃ b, (f.you == me) = b := ⟨_, rfl⟩
  rw [h5, h1, h3] at hst
  rw [h4] at hmx
  have hfe : ∃ FC : Array Value, frV f (.slice A f.body.length c) = .agg FC ∧ FC[1]? = some (.int .i64 f.ep) ∧ FC.size = 8 := ⟨_, rfl, rfl, rfl⟩
  obtain ⟨FC, hFC, hEP, hFS⟩ := hfe
  simp only [h5] at M RM
  simp only [h1, h2, h3, h4, hFC] at M RM
  rw [hFC]
  obtain ⟨ep, hep⟩ : ∃ e, f.ep = e := ⟨_, rfl⟩
  rw [hep] at hEP hst
  have HM := Lib.hid M
  have HRM := Lib.hid RM
  have HST := Lib.hid hst
  have HMX := Lib.hid hmx
  have HEP := Lib.hid hEP
  have HS83 := Lib.hid (show (Try.prog.info? 83).map (·.size) = some FC.size by rw [hFS]; kernel_rfl)
  have hbox := heap_new w (.cells FC 83) w.heap.size rfl
  have b1 := below_alloc1 w (.cells FC 83)
  obtain ⟨W1, hW1⟩ : ∃ W, w.alloc (.cells FC 83) = W := ⟨_, rfl⟩
  rw [hW1] at hbox b1
  obtain ⟨g7, hg7⟩ : ∃ g, w.heap.size = g := ⟨_, rfl⟩
  rw [hg7] at hbox
  have HG := Lib.hid hg7
  have HBOX := Lib.hid hbox
  have HB1 := Lib.hid b1
  have HW1 := Lib.hid hW1
  clear hr hl hn M RM hst hmx h1 h2 h3 h4 h5 hFC hEP hFS hep hbox b1 hW1 hg7
  go_enter Try.func21, Try.ntmps21
  go_upto_region 1 with (fail)
  rw [HW1.out, HG.out]
  clear HW1
  go_wp2_with (first | ((with_reducible show wpList _ _ _ (⟨some 13, .load 83 (.tmp 7), _, _, _, _⟩ :: _) _ _); refine wpList_load_cells rfl 83 (.tmp 7) rfl ⟨g7, 0, none⟩ rfl FC _ rfl (fun j v hj => by rw [add_zero_off, Joins.cell_of_block HBOX.out]; exact hj) Try.underlying83 HS83.out ?_) | fail)
  refine (HM.out W1).mono ?_
  rintro e w2 ⟨rfl, hb2⟩
  have hx2 := keepH hb2 HBOX.out
  have bm := below_alloc1 w2 (.cells #[.bool st, .bool nw, .bool mn, .int .i64 mx, .bool tk] 92)
  have hg9 := heap_new w2 (.cells #[.bool st, .bool nw, .bool mn, .int .i64 mx, .bool tk] 92) w2.heap.size rfl
  have hx3 := keepH bm hx2
  have b3 := (HB1.out.trans (hb2.mono HB1.out.size)).trans (bm.mono (Nat.le_trans HB1.out.size hb2.size))
  go_upto_region 2 with (fail)
  obtain ⟨W3, hW3⟩ : ∃ W, w2.alloc (.cells #[.bool st, .bool nw, .bool mn, .int .i64 mx, .bool tk] 92) = W := ⟨_, rfl⟩
  obtain ⟨g9, hgg⟩ : ∃ g, w2.heap.size = g := ⟨_, rfl⟩
  rw [hW3, hgg] at hg9
  rw [hW3] at hx3 b3
  rw [hW3, hgg]
  have HG7 := Lib.hid hx3
  have HG9 := Lib.hid hg9
  have HB3 := Lib.hid b3
  clear hx2 bm hg9 hx3 b3 hb2 hW3 hgg HBOX HB1 HM
  cases tk with
  | true =>
    obtain ⟨rfl, rfl, hve⟩ := HST.out rfl
    have HVE := Lib.hid hve
    clear hve
    refine wp_region_mono (w0 := _) 36 [some 15, some 16, some 17, some 18, some 19, some 20, some 21, some 22, some 23, some 24, some 25, some 26, some 27, some 28, some 29, some 30, some 31, some 32, some 33, some 34, some 35, some 36, some 37, some 38, some 39, some 40, some 41, some 42, some 43, some 44, some 45, some 46, some 47, some 48, some 49, some 50] (by kernel_rfl) (by kernel_rfl) (by kernel_rfl) (by kernel_rfl) (of_decide_eq_true (by kernel_rfl)) (by kernel_rfl) (pdMT me peer vow mx ep false nw true FC g7 g9) ?_ ?_ ?_
    · exact pdMT_mono me peer vow mx ep false nw true FC g7 g9
    · intro i hi o w1 b ho hbel hv hstood hsize K hK
      have hc : i = 0 ∨ i = 1 ∨ i = 2 ∨ i = 3 ∨ i = 4 ∨ i = 5 ∨ i = 6 ∨ i = 7 ∨ i = 8 ∨ i = 9 ∨ i = 10 ∨ i = 11 ∨ i = 12 ∨ i = 13 ∨ i = 14 ∨ i = 15 ∨ i = 16 ∨ i = 17 ∨ i = 18 ∨ i = 19 ∨ i = 20 ∨ i = 21 ∨ i = 22 ∨ i = 23 ∨ i = 24 ∨ i = 25 ∨ i = 26 ∨ i = 27 ∨ i = 28 ∨ i = 29 ∨ i = 30 ∨ i = 31 ∨ i = 32 ∨ i = 33 ∨ i = 34 ∨ i = 35 := by omega
      rcases hc with rfl | rfl | rfl | rfl | rfl | rfl | rfl | rfl | rfl | rfl | rfl | rfl | rfl | rfl | rfl | rfl | rfl | rfl | rfl | rfl | rfl | rfl | rfl | rfl | rfl | rfl | rfl | rfl | rfl | rfl | rfl | rfl | rfl | rfl | rfl | rfl
      · obtain rfl : (⟨some 15, .load 92 (Operand.tmp 9), _, _, _, _⟩ : Oper) = o := Option.some.inj ho
        refine ask_plain rfl ?_
        have e1 : b.eval (.tmp 9) = .pointer (some ⟨g9, 0, none⟩) := (hstood 9 (by kernel_rfl)).trans rfl
        exact wp_load_cells 92 (.tmp 9) rfl ⟨g9, 0, none⟩ e1 #[.bool false, .bool nw, .bool true, .int .i64 mx, .bool true] _ rfl (fun j v hj => by rw [add_zero_off, Joins.cell_of_block (keepH hbel HG9.out)]; exact hj) Try.underlying92 (by kernel_rfl) (hK _ _ rfl (Below.refl _ _))
      · obtain rfl : (⟨some 16, .move (Operand.tmp 0), _, _, _, _⟩ : Oper) = o := Option.some.inj ho
        refine ask_plain rfl ?_
        have e : b.eval (.tmp 0) = .int .u64 (me.toNat : Int) := (hstood 0 (by kernel_rfl)).trans rfl
        exact wp_val _ rfl (hK _ _ e (Below.refl _ _))
      · obtain rfl : (⟨some 17, .move (Operand.tmp 1), _, _, _, _⟩ : Oper) = o := Option.some.inj ho
        refine ask_plain rfl ?_
        have e : b.eval (.tmp 1) = .int .u64 (peer.toNat : Int) := (hstood 1 (by kernel_rfl)).trans rfl
        exact wp_val _ rfl (hK _ _ e (Below.refl _ _))
      · obtain rfl : (⟨some 18, .move (Operand.tmp 2), _, _, _, _⟩ : Oper) = o := Option.some.inj ho
        refine ask_plain rfl ?_
        have e : b.eval (.tmp 2) = .int .i64 vow := (hstood 2 (by kernel_rfl)).trans rfl
        exact wp_val _ rfl (hK _ _ e (Below.refl _ _))
      · obtain rfl : (⟨some 19, .load 83 (Operand.tmp 7), _, _, _, _⟩ : Oper) = o := Option.some.inj ho
        refine ask_plain rfl ?_
        have e1 : b.eval (.tmp 7) = .pointer (some ⟨g7, 0, none⟩) := (hstood 7 (by kernel_rfl)).trans rfl
        exact wp_load_cells 83 (.tmp 7) rfl ⟨g7, 0, none⟩ e1 FC _ rfl (fun j v hj => by rw [add_zero_off, Joins.cell_of_block (keepH hbel HG7.out)]; exact hj) Try.underlying83 HS83.out (hK _ _ rfl (Below.refl _ _))
      · obtain rfl : (⟨some 20, .call { callee := (Callee.value (Operand.func 71)), args := #[(Operand.tmp 16), (Operand.tmp 17), (Operand.tmp 18), (Operand.tmp 19)], argTypes := #[33, 33, 3, 83] }, _, _, _, _⟩ : Oper) = o := Option.some.inj ho
        refine ask_plain rfl ?_
        have e1 : b.eval (.tmp 16) = .int .u64 (me.toNat : Int) := hv 1 16 (by kernel_rfl) (by kernel_rfl) (of_decide_eq_true (by kernel_rfl))
        have e2 : b.eval (.tmp 17) = .int .u64 (peer.toNat : Int) := hv 2 17 (by kernel_rfl) (by kernel_rfl) (of_decide_eq_true (by kernel_rfl))
        have e3 : b.eval (.tmp 18) = .int .i64 vow := hv 3 18 (by kernel_rfl) (by kernel_rfl) (of_decide_eq_true (by kernel_rfl))
        have e4 : b.eval (.tmp 19) = .agg FC := hv 4 19 (by kernel_rfl) (by kernel_rfl) (of_decide_eq_true (by kernel_rfl))
        refine wp_call_fn 71 #[.tmp 16, .tmp 17, .tmp 18, .tmp 19] #[33, 33, 3, 83] rfl Try.f71 _ Try.func71 (by kernel_rfl) rfl #[.int .u64 (me.toNat : Int), .int .u64 (peer.toNat : Int), .int .i64 vow, .agg FC] (by simp [e1, e2, e3, e4]) ((HRM.out w1).mono ?_)
        rintro e w2 ⟨rfl, hb2⟩
        exact ⟨_, rfl, hK _ _ rfl hb2⟩
      · obtain rfl : (⟨some 21, .binOp BinOp.eql 92 (Operand.tmp 15) (Operand.tmp 20) 92, _, _, _, _⟩ : Oper) = o := Option.some.inj ho
        refine ask_plain rfl ?_
        have e0 : b.eval (.tmp 15) = .agg #[.bool false, .bool nw, .bool true, .int .i64 mx, .bool true] := hv 0 15 (by kernel_rfl) (by kernel_rfl) (of_decide_eq_true (by kernel_rfl))
        have e1 : b.eval (.tmp 20) = .agg #[.bool false, .bool nw, .bool true, .int .i64 mx, .bool true] := hv 5 20 (by kernel_rfl) (by kernel_rfl) (of_decide_eq_true (by kernel_rfl))
        exact wp_val (.bool true) (by simp only [execOp, e0, e1]; simp [go_sem, eq92]) (hK _ _ rfl (Below.refl _ _))
      · obtain rfl : (⟨some 22, .move (Operand.tmp 21), _, _, _, _⟩ : Oper) = o := Option.some.inj ho
        refine ask_plain rfl ?_
        have e : b.eval (.tmp 21) = .bool true := hv 6 21 (by kernel_rfl) (by kernel_rfl) (of_decide_eq_true (by kernel_rfl))
        exact wp_val _ rfl (hK _ _ e (Below.refl _ _))
      · obtain rfl : (⟨some 23, .fieldAddr 92 (Operand.tmp 9) 3, _, _, _, _⟩ : Oper) = o := Option.some.inj ho
        have hgd := hv 7 22 (by kernel_rfl) (by kernel_rfl) (of_decide_eq_true (by kernel_rfl))
        refine ask_yes 7 22 true rfl (by kernel_rfl) (by rw [hsize]; exact (of_decide_eq_true (by kernel_rfl))) hgd ?_
        have e : b.eval (.tmp 9) = .pointer (some ⟨g9, 0, none⟩) := (hstood 9 (by kernel_rfl)).trans rfl
        exact wp_val (.pointer (some ⟨g9, 3, none⟩)) (by simp only [execOp, e, Sem.run_bind, field92 g9 3 (by decide), Result.andThen]; rfl) (hK _ _ rfl (Below.refl _ _))
      · obtain rfl : (⟨some 24, .load 3 (Operand.tmp 23), _, _, _, _⟩ : Oper) = o := Option.some.inj ho
        have hgd := hv 7 22 (by kernel_rfl) (by kernel_rfl) (of_decide_eq_true (by kernel_rfl))
        refine ask_yes 7 22 true rfl (by kernel_rfl) (by rw [hsize]; exact (of_decide_eq_true (by kernel_rfl))) hgd ?_
        have e : b.eval (.tmp 23) = .pointer (some ⟨g9, 3, none⟩) := hv 8 23 (by kernel_rfl) (by kernel_rfl) (of_decide_eq_true (by kernel_rfl))
        have hq : w1.cell? ⟨g9, 3, none⟩ = some (.int .i64 mx) := by rw [Joins.cell_of_block (keepH hbel HG9.out)]; rfl
        exact wp_val (.int .i64 mx) (by simp only [execOp, e]; exact load3 _ _ _ hq) (hK _ _ rfl (Below.refl _ _))
      · obtain rfl : (⟨some 25, .move (Operand.tmp 2), _, _, _, _⟩ : Oper) = o := Option.some.inj ho
        have hgd := hv 7 22 (by kernel_rfl) (by kernel_rfl) (of_decide_eq_true (by kernel_rfl))
        refine ask_yes 7 22 true rfl (by kernel_rfl) (by rw [hsize]; exact (of_decide_eq_true (by kernel_rfl))) hgd ?_
        have e : b.eval (.tmp 2) = .int .i64 vow := (hstood 2 (by kernel_rfl)).trans rfl
        exact wp_val _ rfl (hK _ _ e (Below.refl _ _))
      · obtain rfl : (⟨some 26, .binOp BinOp.geq 3 (Operand.tmp 24) (Operand.tmp 25) 3, _, _, _, _⟩ : Oper) = o := Option.some.inj ho
        have hgd := hv 7 22 (by kernel_rfl) (by kernel_rfl) (of_decide_eq_true (by kernel_rfl))
        refine ask_yes 7 22 true rfl (by kernel_rfl) (by rw [hsize]; exact (of_decide_eq_true (by kernel_rfl))) hgd ?_
        have e0 : b.eval (.tmp 24) = .int .i64 mx := hv 9 24 (by kernel_rfl) (by kernel_rfl) (of_decide_eq_true (by kernel_rfl))
        have e1 : b.eval (.tmp 25) = .int .i64 vow := hv 10 25 (by kernel_rfl) (by kernel_rfl) (of_decide_eq_true (by kernel_rfl))
        exact wp_val (.bool true) (by simp only [execOp, e0, e1]; simp [go_sem, HMX.out]) (hK _ _ rfl (Below.refl _ _))
      · obtain rfl : (⟨some 27, .pick (Operand.tmp 22) (Operand.tmp 26) (Operand.const (Value.bool false)), _, _, _, _⟩ : Oper) = o := Option.some.inj ho
        refine ask_plain rfl ?_
        have e0 : b.eval (.tmp 22) = .bool true := hv 7 22 (by kernel_rfl) (by kernel_rfl) (of_decide_eq_true (by kernel_rfl))
        have e1 : b.eval (.tmp 26) = .bool true := hv 11 26 (by kernel_rfl) (by kernel_rfl) (of_decide_eq_true (by kernel_rfl))
        exact wp_val (.bool true) (by simp only [execOp, e0, e1]; rfl) (hK _ _ rfl (Below.refl _ _))
      · obtain rfl : (⟨some 28, .move (Operand.tmp 27), _, _, _, _⟩ : Oper) = o := Option.some.inj ho
        refine ask_plain rfl ?_
        have e : b.eval (.tmp 27) = .bool true := hv 12 27 (by kernel_rfl) (by kernel_rfl) (of_decide_eq_true (by kernel_rfl))
        exact wp_val _ rfl (hK _ _ e (Below.refl _ _))
      · obtain rfl : (⟨some 29, .fieldAddr 92 (Operand.tmp 9) 4, _, _, _, _⟩ : Oper) = o := Option.some.inj ho
        have hgd := hv 13 28 (by kernel_rfl) (by kernel_rfl) (of_decide_eq_true (by kernel_rfl))
        refine ask_yes 13 28 true rfl (by kernel_rfl) (by rw [hsize]; exact (of_decide_eq_true (by kernel_rfl))) hgd ?_
        have e : b.eval (.tmp 9) = .pointer (some ⟨g9, 0, none⟩) := (hstood 9 (by kernel_rfl)).trans rfl
        exact wp_val (.pointer (some ⟨g9, 4, none⟩)) (by simp only [execOp, e, Sem.run_bind, field92 g9 4 (by decide), Result.andThen]; rfl) (hK _ _ rfl (Below.refl _ _))
      · obtain rfl : (⟨some 30, .load 4 (Operand.tmp 29), _, _, _, _⟩ : Oper) = o := Option.some.inj ho
        have hgd := hv 13 28 (by kernel_rfl) (by kernel_rfl) (of_decide_eq_true (by kernel_rfl))
        refine ask_yes 13 28 true rfl (by kernel_rfl) (by rw [hsize]; exact (of_decide_eq_true (by kernel_rfl))) hgd ?_
        have e : b.eval (.tmp 29) = .pointer (some ⟨g9, 4, none⟩) := hv 14 29 (by kernel_rfl) (by kernel_rfl) (of_decide_eq_true (by kernel_rfl))
        have hq : w1.cell? ⟨g9, 4, none⟩ = some (.bool true) := by rw [Joins.cell_of_block (keepH hbel HG9.out)]; rfl
        exact wp_val (.bool true) (by simp only [execOp, e]; exact load4 _ _ _ hq) (hK _ _ rfl (Below.refl _ _))
      · obtain rfl : (⟨some 31, .unOp UnOp.not 4 (Operand.tmp 30), _, _, _, _⟩ : Oper) = o := Option.some.inj ho
        have hgd := hv 13 28 (by kernel_rfl) (by kernel_rfl) (of_decide_eq_true (by kernel_rfl))
        refine ask_yes 13 28 true rfl (by kernel_rfl) (by rw [hsize]; exact (of_decide_eq_true (by kernel_rfl))) hgd ?_
        have e0 : b.eval (.tmp 30) = .bool true := hv 15 30 (by kernel_rfl) (by kernel_rfl) (of_decide_eq_true (by kernel_rfl))
        exact wp_val (.bool false) (by simp only [execOp, e0]; simp [go_sem]) (hK _ _ rfl (Below.refl _ _))
      · obtain rfl : (⟨some 32, .move (Operand.tmp 31), _, _, _, _⟩ : Oper) = o := Option.some.inj ho
        have hgd := hv 13 28 (by kernel_rfl) (by kernel_rfl) (of_decide_eq_true (by kernel_rfl))
        refine ask_yes 13 28 true rfl (by kernel_rfl) (by rw [hsize]; exact (of_decide_eq_true (by kernel_rfl))) hgd ?_
        have e : b.eval (.tmp 31) = .bool false := hv 16 31 (by kernel_rfl) (by kernel_rfl) (of_decide_eq_true (by kernel_rfl))
        exact wp_val _ rfl (hK _ _ e (Below.refl _ _))
      · obtain rfl : (⟨some 33, .fieldAddr 83 (Operand.tmp 7) 1, _, _, _, _⟩ : Oper) = o := Option.some.inj ho
        have hgd := hv 17 32 (by kernel_rfl) (by kernel_rfl) (of_decide_eq_true (by kernel_rfl))
        refine ask_yes 17 32 false rfl (by kernel_rfl) (by rw [hsize]; exact (of_decide_eq_true (by kernel_rfl))) hgd ?_
        have e : b.eval (.tmp 7) = .pointer (some ⟨g7, 0, none⟩) := (hstood 7 (by kernel_rfl)).trans rfl
        exact wp_val (.pointer (some ⟨g7, 1, none⟩)) (by simp only [execOp, e, Sem.run_bind, field83 g7 1 (by decide), Result.andThen]; rfl) (hK _ _ rfl (Below.refl _ _))
      · obtain rfl : (⟨some 34, .load 3 (Operand.tmp 33), _, _, _, _⟩ : Oper) = o := Option.some.inj ho
        have hgd := hv 17 32 (by kernel_rfl) (by kernel_rfl) (of_decide_eq_true (by kernel_rfl))
        refine ask_yes 17 32 false rfl (by kernel_rfl) (by rw [hsize]; exact (of_decide_eq_true (by kernel_rfl))) hgd ?_
        have e : b.eval (.tmp 33) = .pointer (some ⟨g7, 1, none⟩) := hv 18 33 (by kernel_rfl) (by kernel_rfl) (of_decide_eq_true (by kernel_rfl))
        have hq : w1.cell? ⟨g7, 1, none⟩ = some (.int .i64 ep) := by rw [Joins.cell_of_block (keepH hbel HG7.out)]; exact HEP.out
        exact wp_val (.int .i64 ep) (by simp only [execOp, e]; exact load3 _ _ _ hq) (hK _ _ rfl (Below.refl _ _))
      · obtain rfl : (⟨some 35, .move (Operand.tmp 2), _, _, _, _⟩ : Oper) = o := Option.some.inj ho
        have hgd := hv 17 32 (by kernel_rfl) (by kernel_rfl) (of_decide_eq_true (by kernel_rfl))
        refine ask_yes 17 32 false rfl (by kernel_rfl) (by rw [hsize]; exact (of_decide_eq_true (by kernel_rfl))) hgd ?_
        have e : b.eval (.tmp 2) = .int .i64 vow := (hstood 2 (by kernel_rfl)).trans rfl
        exact wp_val _ rfl (hK _ _ e (Below.refl _ _))
      · obtain rfl : (⟨some 36, .binOp BinOp.geq 3 (Operand.tmp 34) (Operand.tmp 35) 3, _, _, _, _⟩ : Oper) = o := Option.some.inj ho
        have hgd := hv 17 32 (by kernel_rfl) (by kernel_rfl) (of_decide_eq_true (by kernel_rfl))
        refine ask_yes 17 32 false rfl (by kernel_rfl) (by rw [hsize]; exact (of_decide_eq_true (by kernel_rfl))) hgd ?_
        have e0 : b.eval (.tmp 34) = .int .i64 ep := hv 19 34 (by kernel_rfl) (by kernel_rfl) (of_decide_eq_true (by kernel_rfl))
        have e1 : b.eval (.tmp 35) = .int .i64 vow := hv 20 35 (by kernel_rfl) (by kernel_rfl) (of_decide_eq_true (by kernel_rfl))
        exact wp_val (.bool true) (by simp only [execOp, e0, e1]; simp [go_sem, HVE.out]) (hK _ _ rfl (Below.refl _ _))
      · obtain rfl : (⟨some 37, .move (Operand.tmp 36), _, _, _, _⟩ : Oper) = o := Option.some.inj ho
        have hgd := hv 17 32 (by kernel_rfl) (by kernel_rfl) (of_decide_eq_true (by kernel_rfl))
        refine ask_yes 17 32 false rfl (by kernel_rfl) (by rw [hsize]; exact (of_decide_eq_true (by kernel_rfl))) hgd ?_
        have e : b.eval (.tmp 36) = .bool true := hv 21 36 (by kernel_rfl) (by kernel_rfl) (of_decide_eq_true (by kernel_rfl))
        exact wp_val _ rfl (hK _ _ e (Below.refl _ _))
      · obtain rfl : (⟨some 38, .fieldAddr 92 (Operand.tmp 9) 2, _, _, _, _⟩ : Oper) = o := Option.some.inj ho
        have hgd := hv 22 37 (by kernel_rfl) (by kernel_rfl) (of_decide_eq_true (by kernel_rfl))
        refine ask_yes 22 37 true rfl (by kernel_rfl) (by rw [hsize]; exact (of_decide_eq_true (by kernel_rfl))) hgd ?_
        have e : b.eval (.tmp 9) = .pointer (some ⟨g9, 0, none⟩) := (hstood 9 (by kernel_rfl)).trans rfl
        exact wp_val (.pointer (some ⟨g9, 2, none⟩)) (by simp only [execOp, e, Sem.run_bind, field92 g9 2 (by decide), Result.andThen]; rfl) (hK _ _ rfl (Below.refl _ _))
      · obtain rfl : (⟨some 39, .load 4 (Operand.tmp 38), _, _, _, _⟩ : Oper) = o := Option.some.inj ho
        have hgd := hv 22 37 (by kernel_rfl) (by kernel_rfl) (of_decide_eq_true (by kernel_rfl))
        refine ask_yes 22 37 true rfl (by kernel_rfl) (by rw [hsize]; exact (of_decide_eq_true (by kernel_rfl))) hgd ?_
        have e : b.eval (.tmp 38) = .pointer (some ⟨g9, 2, none⟩) := hv 23 38 (by kernel_rfl) (by kernel_rfl) (of_decide_eq_true (by kernel_rfl))
        have hq : w1.cell? ⟨g9, 2, none⟩ = some (.bool true) := by rw [Joins.cell_of_block (keepH hbel HG9.out)]; rfl
        exact wp_val (.bool true) (by simp only [execOp, e]; exact load4 _ _ _ hq) (hK _ _ rfl (Below.refl _ _))
      · obtain rfl : (⟨some 40, .pick (Operand.tmp 37) (Operand.tmp 39) (Operand.const (Value.bool false)), _, _, _, _⟩ : Oper) = o := Option.some.inj ho
        have hgd := hv 17 32 (by kernel_rfl) (by kernel_rfl) (of_decide_eq_true (by kernel_rfl))
        refine ask_yes 17 32 false rfl (by kernel_rfl) (by rw [hsize]; exact (of_decide_eq_true (by kernel_rfl))) hgd ?_
        have e0 : b.eval (.tmp 37) = .bool true := hv 22 37 (by kernel_rfl) (by kernel_rfl) (of_decide_eq_true (by kernel_rfl))
        have e1 : b.eval (.tmp 39) = .bool true := hv 24 39 (by kernel_rfl) (by kernel_rfl) (of_decide_eq_true (by kernel_rfl))
        exact wp_val (.bool true) (by simp only [execOp, e0, e1]; rfl) (hK _ _ rfl (Below.refl _ _))
      · obtain rfl : (⟨some 41, .move (Operand.tmp 40), _, _, _, _⟩ : Oper) = o := Option.some.inj ho
        have hgd := hv 17 32 (by kernel_rfl) (by kernel_rfl) (of_decide_eq_true (by kernel_rfl))
        refine ask_yes 17 32 false rfl (by kernel_rfl) (by rw [hsize]; exact (of_decide_eq_true (by kernel_rfl))) hgd ?_
        have e : b.eval (.tmp 40) = .bool true := hv 25 40 (by kernel_rfl) (by kernel_rfl) (of_decide_eq_true (by kernel_rfl))
        exact wp_val _ rfl (hK _ _ e (Below.refl _ _))
      · obtain rfl : (⟨some 42, .fieldAddr 92 (Operand.tmp 9) 0, _, _, _, _⟩ : Oper) = o := Option.some.inj ho
        have hgd := hv 26 41 (by kernel_rfl) (by kernel_rfl) (of_decide_eq_true (by kernel_rfl))
        refine ask_yes 26 41 true rfl (by kernel_rfl) (by rw [hsize]; exact (of_decide_eq_true (by kernel_rfl))) hgd ?_
        have e : b.eval (.tmp 9) = .pointer (some ⟨g9, 0, none⟩) := (hstood 9 (by kernel_rfl)).trans rfl
        exact wp_val (.pointer (some ⟨g9, 0, none⟩)) (by simp only [execOp, e, Sem.run_bind, field92 g9 0 (by decide), Result.andThen]; rfl) (hK _ _ rfl (Below.refl _ _))
      · obtain rfl : (⟨some 43, .load 4 (Operand.tmp 42), _, _, _, _⟩ : Oper) = o := Option.some.inj ho
        have hgd := hv 26 41 (by kernel_rfl) (by kernel_rfl) (of_decide_eq_true (by kernel_rfl))
        refine ask_yes 26 41 true rfl (by kernel_rfl) (by rw [hsize]; exact (of_decide_eq_true (by kernel_rfl))) hgd ?_
        have e : b.eval (.tmp 42) = .pointer (some ⟨g9, 0, none⟩) := hv 27 42 (by kernel_rfl) (by kernel_rfl) (of_decide_eq_true (by kernel_rfl))
        have hq : w1.cell? ⟨g9, 0, none⟩ = some (.bool false) := by rw [Joins.cell_of_block (keepH hbel HG9.out)]; rfl
        exact wp_val (.bool false) (by simp only [execOp, e]; exact load4 _ _ _ hq) (hK _ _ rfl (Below.refl _ _))
      · obtain rfl : (⟨some 44, .unOp UnOp.not 4 (Operand.tmp 43), _, _, _, _⟩ : Oper) = o := Option.some.inj ho
        have hgd := hv 26 41 (by kernel_rfl) (by kernel_rfl) (of_decide_eq_true (by kernel_rfl))
        refine ask_yes 26 41 true rfl (by kernel_rfl) (by rw [hsize]; exact (of_decide_eq_true (by kernel_rfl))) hgd ?_
        have e0 : b.eval (.tmp 43) = .bool false := hv 28 43 (by kernel_rfl) (by kernel_rfl) (of_decide_eq_true (by kernel_rfl))
        exact wp_val (.bool true) (by simp only [execOp, e0]; simp [go_sem]) (hK _ _ rfl (Below.refl _ _))
      · obtain rfl : (⟨some 45, .pick (Operand.tmp 41) (Operand.tmp 44) (Operand.const (Value.bool false)), _, _, _, _⟩ : Oper) = o := Option.some.inj ho
        have hgd := hv 17 32 (by kernel_rfl) (by kernel_rfl) (of_decide_eq_true (by kernel_rfl))
        refine ask_yes 17 32 false rfl (by kernel_rfl) (by rw [hsize]; exact (of_decide_eq_true (by kernel_rfl))) hgd ?_
        have e0 : b.eval (.tmp 41) = .bool true := hv 26 41 (by kernel_rfl) (by kernel_rfl) (of_decide_eq_true (by kernel_rfl))
        have e1 : b.eval (.tmp 44) = .bool true := hv 29 44 (by kernel_rfl) (by kernel_rfl) (of_decide_eq_true (by kernel_rfl))
        exact wp_val (.bool true) (by simp only [execOp, e0, e1]; rfl) (hK _ _ rfl (Below.refl _ _))
      · obtain rfl : (⟨some 46, .pick (Operand.tmp 32) (Operand.const (Value.bool true)) (Operand.tmp 45), _, _, _, _⟩ : Oper) = o := Option.some.inj ho
        have hgd := hv 13 28 (by kernel_rfl) (by kernel_rfl) (of_decide_eq_true (by kernel_rfl))
        refine ask_yes 13 28 true rfl (by kernel_rfl) (by rw [hsize]; exact (of_decide_eq_true (by kernel_rfl))) hgd ?_
        have e0 : b.eval (.tmp 32) = .bool false := hv 17 32 (by kernel_rfl) (by kernel_rfl) (of_decide_eq_true (by kernel_rfl))
        have e1 : b.eval (.tmp 45) = .bool true := hv 30 45 (by kernel_rfl) (by kernel_rfl) (of_decide_eq_true (by kernel_rfl))
        exact wp_val (.bool true) (by simp only [execOp, e0, e1]; rfl) (hK _ _ rfl (Below.refl _ _))
      · obtain rfl : (⟨some 47, .pick (Operand.tmp 28) (Operand.tmp 46) (Operand.const (Value.bool false)), _, _, _, _⟩ : Oper) = o := Option.some.inj ho
        refine ask_plain rfl ?_
        have e0 : b.eval (.tmp 28) = .bool true := hv 13 28 (by kernel_rfl) (by kernel_rfl) (of_decide_eq_true (by kernel_rfl))
        have e1 : b.eval (.tmp 46) = .bool true := hv 31 46 (by kernel_rfl) (by kernel_rfl) (of_decide_eq_true (by kernel_rfl))
        exact wp_val (.bool true) (by simp only [execOp, e0, e1]; rfl) (hK _ _ rfl (Below.refl _ _))
      · obtain rfl : (⟨some 48, .move (Operand.tmp 47), _, _, _, _⟩ : Oper) = o := Option.some.inj ho
        refine ask_plain rfl ?_
        have e : b.eval (.tmp 47) = .bool true := hv 32 47 (by kernel_rfl) (by kernel_rfl) (of_decide_eq_true (by kernel_rfl))
        exact wp_val _ rfl (hK _ _ e (Below.refl _ _))
      · obtain rfl : (⟨some 49, .call { callee := (Callee.value (Operand.func 67)), args := #[], argTypes := #[] }, _, _, _, _⟩ : Oper) = o := Option.some.inj ho
        have hgd := hv 33 48 (by kernel_rfl) (by kernel_rfl) (of_decide_eq_true (by kernel_rfl))
        refine ask_yes 33 48 true rfl (by kernel_rfl) (by rw [hsize]; exact (of_decide_eq_true (by kernel_rfl))) hgd ?_
        refine wp_call_fn 67 #[] #[] rfl Try.f67 _ Try.func67 (by kernel_rfl) rfl #[] (by simp) ((fawake_any w1).mono ?_)
        rintro e w2 ⟨rfl, hb2⟩
        exact ⟨_, rfl, hK _ _ rfl hb2⟩
      · obtain rfl : (⟨some 50, .pick (Operand.tmp 48) (Operand.tmp 49) (Operand.const (Value.bool false)), _, _, _, _⟩ : Oper) = o := Option.some.inj ho
        refine ask_plain rfl ?_
        have e0 : b.eval (.tmp 48) = .bool true := hv 33 48 (by kernel_rfl) (by kernel_rfl) (of_decide_eq_true (by kernel_rfl))
        have e1 : b.eval (.tmp 49) = .bool true := hv 34 49 (by kernel_rfl) (by kernel_rfl) (of_decide_eq_true (by kernel_rfl))
        exact wp_val (.bool true) (by simp only [execOp, e0, e1]; rfl) (hK _ _ rfl (Below.refl _ _))
    · intro vs w5 hp hb5
      have HB5 := Lib.hid (HB3.out.trans (hb5.mono HB3.out.size))
      have v35 : vs 35 = .bool true := hp 35 (by decide)
      change wpList _ _ _ [_] _ _
      simp only [putD, Act.put, List.setIfInBounds_toArray, List.set_cons_zero, List.set_cons_succ, v35]
      generalize vs 0 = y0, vs 1 = y1, vs 2 = y2, vs 3 = y3
      clear hp hb5
      go_wp2
      go_ret
      exact ⟨rfl, HB5.out⟩
  | false =>
    refine wp_region_mono (w0 := _) 36 [some 15, some 16, some 17, some 18, some 19, some 20, some 21, some 22, some 23, some 24, some 25, some 26, some 27, some 28, some 29, some 30, some 31, some 32, some 33, some 34, some 35, some 36, some 37, some 38, some 39, some 40, some 41, some 42, some 43, some 44, some 45, some 46, some 47, some 48, some 49, some 50] (by kernel_rfl) (by kernel_rfl) (by kernel_rfl) (by kernel_rfl) (of_decide_eq_true (by kernel_rfl)) (by kernel_rfl) (pdMF me peer vow mx ep st nw mn FC g7 g9) ?_ ?_ ?_
    · exact pdMF_mono me peer vow mx ep st nw mn FC g7 g9
    · intro i hi o w1 b ho hbel hv hstood hsize K hK
      have hc : i = 0 ∨ i = 1 ∨ i = 2 ∨ i = 3 ∨ i = 4 ∨ i = 5 ∨ i = 6 ∨ i = 7 ∨ i = 8 ∨ i = 9 ∨ i = 10 ∨ i = 11 ∨ i = 12 ∨ i = 13 ∨ i = 14 ∨ i = 15 ∨ i = 16 ∨ i = 17 ∨ i = 18 ∨ i = 19 ∨ i = 20 ∨ i = 21 ∨ i = 22 ∨ i = 23 ∨ i = 24 ∨ i = 25 ∨ i = 26 ∨ i = 27 ∨ i = 28 ∨ i = 29 ∨ i = 30 ∨ i = 31 ∨ i = 32 ∨ i = 33 ∨ i = 34 ∨ i = 35 := by omega
      rcases hc with rfl | rfl | rfl | rfl | rfl | rfl | rfl | rfl | rfl | rfl | rfl | rfl | rfl | rfl | rfl | rfl | rfl | rfl | rfl | rfl | rfl | rfl | rfl | rfl | rfl | rfl | rfl | rfl | rfl | rfl | rfl | rfl | rfl | rfl | rfl | rfl
      · obtain rfl : (⟨some 15, .load 92 (Operand.tmp 9), _, _, _, _⟩ : Oper) = o := Option.some.inj ho
        refine ask_plain rfl ?_
        have e1 : b.eval (.tmp 9) = .pointer (some ⟨g9, 0, none⟩) := (hstood 9 (by kernel_rfl)).trans rfl
        exact wp_load_cells 92 (.tmp 9) rfl ⟨g9, 0, none⟩ e1 #[.bool st, .bool nw, .bool mn, .int .i64 mx, .bool false] _ rfl (fun j v hj => by rw [add_zero_off, Joins.cell_of_block (keepH hbel HG9.out)]; exact hj) Try.underlying92 (by kernel_rfl) (hK _ _ rfl (Below.refl _ _))
      · obtain rfl : (⟨some 16, .move (Operand.tmp 0), _, _, _, _⟩ : Oper) = o := Option.some.inj ho
        refine ask_plain rfl ?_
        have e : b.eval (.tmp 0) = .int .u64 (me.toNat : Int) := (hstood 0 (by kernel_rfl)).trans rfl
        exact wp_val _ rfl (hK _ _ e (Below.refl _ _))
      · obtain rfl : (⟨some 17, .move (Operand.tmp 1), _, _, _, _⟩ : Oper) = o := Option.some.inj ho
        refine ask_plain rfl ?_
        have e : b.eval (.tmp 1) = .int .u64 (peer.toNat : Int) := (hstood 1 (by kernel_rfl)).trans rfl
        exact wp_val _ rfl (hK _ _ e (Below.refl _ _))
      · obtain rfl : (⟨some 18, .move (Operand.tmp 2), _, _, _, _⟩ : Oper) = o := Option.some.inj ho
        refine ask_plain rfl ?_
        have e : b.eval (.tmp 2) = .int .i64 vow := (hstood 2 (by kernel_rfl)).trans rfl
        exact wp_val _ rfl (hK _ _ e (Below.refl _ _))
      · obtain rfl : (⟨some 19, .load 83 (Operand.tmp 7), _, _, _, _⟩ : Oper) = o := Option.some.inj ho
        refine ask_plain rfl ?_
        have e1 : b.eval (.tmp 7) = .pointer (some ⟨g7, 0, none⟩) := (hstood 7 (by kernel_rfl)).trans rfl
        exact wp_load_cells 83 (.tmp 7) rfl ⟨g7, 0, none⟩ e1 FC _ rfl (fun j v hj => by rw [add_zero_off, Joins.cell_of_block (keepH hbel HG7.out)]; exact hj) Try.underlying83 HS83.out (hK _ _ rfl (Below.refl _ _))
      · obtain rfl : (⟨some 20, .call { callee := (Callee.value (Operand.func 71)), args := #[(Operand.tmp 16), (Operand.tmp 17), (Operand.tmp 18), (Operand.tmp 19)], argTypes := #[33, 33, 3, 83] }, _, _, _, _⟩ : Oper) = o := Option.some.inj ho
        refine ask_plain rfl ?_
        have e1 : b.eval (.tmp 16) = .int .u64 (me.toNat : Int) := hv 1 16 (by kernel_rfl) (by kernel_rfl) (of_decide_eq_true (by kernel_rfl))
        have e2 : b.eval (.tmp 17) = .int .u64 (peer.toNat : Int) := hv 2 17 (by kernel_rfl) (by kernel_rfl) (of_decide_eq_true (by kernel_rfl))
        have e3 : b.eval (.tmp 18) = .int .i64 vow := hv 3 18 (by kernel_rfl) (by kernel_rfl) (of_decide_eq_true (by kernel_rfl))
        have e4 : b.eval (.tmp 19) = .agg FC := hv 4 19 (by kernel_rfl) (by kernel_rfl) (of_decide_eq_true (by kernel_rfl))
        refine wp_call_fn 71 #[.tmp 16, .tmp 17, .tmp 18, .tmp 19] #[33, 33, 3, 83] rfl Try.f71 _ Try.func71 (by kernel_rfl) rfl #[.int .u64 (me.toNat : Int), .int .u64 (peer.toNat : Int), .int .i64 vow, .agg FC] (by simp [e1, e2, e3, e4]) ((HRM.out w1).mono ?_)
        rintro e w2 ⟨rfl, hb2⟩
        exact ⟨_, rfl, hK _ _ rfl hb2⟩
      · obtain rfl : (⟨some 21, .binOp BinOp.eql 92 (Operand.tmp 15) (Operand.tmp 20) 92, _, _, _, _⟩ : Oper) = o := Option.some.inj ho
        refine ask_plain rfl ?_
        have e0 : b.eval (.tmp 15) = .agg #[.bool st, .bool nw, .bool mn, .int .i64 mx, .bool false] := hv 0 15 (by kernel_rfl) (by kernel_rfl) (of_decide_eq_true (by kernel_rfl))
        have e1 : b.eval (.tmp 20) = .agg #[.bool st, .bool nw, .bool mn, .int .i64 mx, .bool false] := hv 5 20 (by kernel_rfl) (by kernel_rfl) (of_decide_eq_true (by kernel_rfl))
        exact wp_val (.bool true) (by simp only [execOp, e0, e1]; simp [go_sem, eq92]) (hK _ _ rfl (Below.refl _ _))
      · obtain rfl : (⟨some 22, .move (Operand.tmp 21), _, _, _, _⟩ : Oper) = o := Option.some.inj ho
        refine ask_plain rfl ?_
        have e : b.eval (.tmp 21) = .bool true := hv 6 21 (by kernel_rfl) (by kernel_rfl) (of_decide_eq_true (by kernel_rfl))
        exact wp_val _ rfl (hK _ _ e (Below.refl _ _))
      · obtain rfl : (⟨some 23, .fieldAddr 92 (Operand.tmp 9) 3, _, _, _, _⟩ : Oper) = o := Option.some.inj ho
        have hgd := hv 7 22 (by kernel_rfl) (by kernel_rfl) (of_decide_eq_true (by kernel_rfl))
        refine ask_yes 7 22 true rfl (by kernel_rfl) (by rw [hsize]; exact (of_decide_eq_true (by kernel_rfl))) hgd ?_
        have e : b.eval (.tmp 9) = .pointer (some ⟨g9, 0, none⟩) := (hstood 9 (by kernel_rfl)).trans rfl
        exact wp_val (.pointer (some ⟨g9, 3, none⟩)) (by simp only [execOp, e, Sem.run_bind, field92 g9 3 (by decide), Result.andThen]; rfl) (hK _ _ rfl (Below.refl _ _))
      · obtain rfl : (⟨some 24, .load 3 (Operand.tmp 23), _, _, _, _⟩ : Oper) = o := Option.some.inj ho
        have hgd := hv 7 22 (by kernel_rfl) (by kernel_rfl) (of_decide_eq_true (by kernel_rfl))
        refine ask_yes 7 22 true rfl (by kernel_rfl) (by rw [hsize]; exact (of_decide_eq_true (by kernel_rfl))) hgd ?_
        have e : b.eval (.tmp 23) = .pointer (some ⟨g9, 3, none⟩) := hv 8 23 (by kernel_rfl) (by kernel_rfl) (of_decide_eq_true (by kernel_rfl))
        have hq : w1.cell? ⟨g9, 3, none⟩ = some (.int .i64 mx) := by rw [Joins.cell_of_block (keepH hbel HG9.out)]; rfl
        exact wp_val (.int .i64 mx) (by simp only [execOp, e]; exact load3 _ _ _ hq) (hK _ _ rfl (Below.refl _ _))
      · obtain rfl : (⟨some 25, .move (Operand.tmp 2), _, _, _, _⟩ : Oper) = o := Option.some.inj ho
        have hgd := hv 7 22 (by kernel_rfl) (by kernel_rfl) (of_decide_eq_true (by kernel_rfl))
        refine ask_yes 7 22 true rfl (by kernel_rfl) (by rw [hsize]; exact (of_decide_eq_true (by kernel_rfl))) hgd ?_
        have e : b.eval (.tmp 2) = .int .i64 vow := (hstood 2 (by kernel_rfl)).trans rfl
        exact wp_val _ rfl (hK _ _ e (Below.refl _ _))
      · obtain rfl : (⟨some 26, .binOp BinOp.geq 3 (Operand.tmp 24) (Operand.tmp 25) 3, _, _, _, _⟩ : Oper) = o := Option.some.inj ho
        have hgd := hv 7 22 (by kernel_rfl) (by kernel_rfl) (of_decide_eq_true (by kernel_rfl))
        refine ask_yes 7 22 true rfl (by kernel_rfl) (by rw [hsize]; exact (of_decide_eq_true (by kernel_rfl))) hgd ?_
        have e0 : b.eval (.tmp 24) = .int .i64 mx := hv 9 24 (by kernel_rfl) (by kernel_rfl) (of_decide_eq_true (by kernel_rfl))
        have e1 : b.eval (.tmp 25) = .int .i64 vow := hv 10 25 (by kernel_rfl) (by kernel_rfl) (of_decide_eq_true (by kernel_rfl))
        exact wp_val (.bool true) (by simp only [execOp, e0, e1]; simp [go_sem, HMX.out]) (hK _ _ rfl (Below.refl _ _))
      · obtain rfl : (⟨some 27, .pick (Operand.tmp 22) (Operand.tmp 26) (Operand.const (Value.bool false)), _, _, _, _⟩ : Oper) = o := Option.some.inj ho
        refine ask_plain rfl ?_
        have e0 : b.eval (.tmp 22) = .bool true := hv 7 22 (by kernel_rfl) (by kernel_rfl) (of_decide_eq_true (by kernel_rfl))
        have e1 : b.eval (.tmp 26) = .bool true := hv 11 26 (by kernel_rfl) (by kernel_rfl) (of_decide_eq_true (by kernel_rfl))
        exact wp_val (.bool true) (by simp only [execOp, e0, e1]; rfl) (hK _ _ rfl (Below.refl _ _))
      · obtain rfl : (⟨some 28, .move (Operand.tmp 27), _, _, _, _⟩ : Oper) = o := Option.some.inj ho
        refine ask_plain rfl ?_
        have e : b.eval (.tmp 27) = .bool true := hv 12 27 (by kernel_rfl) (by kernel_rfl) (of_decide_eq_true (by kernel_rfl))
        exact wp_val _ rfl (hK _ _ e (Below.refl _ _))
      · obtain rfl : (⟨some 29, .fieldAddr 92 (Operand.tmp 9) 4, _, _, _, _⟩ : Oper) = o := Option.some.inj ho
        have hgd := hv 13 28 (by kernel_rfl) (by kernel_rfl) (of_decide_eq_true (by kernel_rfl))
        refine ask_yes 13 28 true rfl (by kernel_rfl) (by rw [hsize]; exact (of_decide_eq_true (by kernel_rfl))) hgd ?_
        have e : b.eval (.tmp 9) = .pointer (some ⟨g9, 0, none⟩) := (hstood 9 (by kernel_rfl)).trans rfl
        exact wp_val (.pointer (some ⟨g9, 4, none⟩)) (by simp only [execOp, e, Sem.run_bind, field92 g9 4 (by decide), Result.andThen]; rfl) (hK _ _ rfl (Below.refl _ _))
      · obtain rfl : (⟨some 30, .load 4 (Operand.tmp 29), _, _, _, _⟩ : Oper) = o := Option.some.inj ho
        have hgd := hv 13 28 (by kernel_rfl) (by kernel_rfl) (of_decide_eq_true (by kernel_rfl))
        refine ask_yes 13 28 true rfl (by kernel_rfl) (by rw [hsize]; exact (of_decide_eq_true (by kernel_rfl))) hgd ?_
        have e : b.eval (.tmp 29) = .pointer (some ⟨g9, 4, none⟩) := hv 14 29 (by kernel_rfl) (by kernel_rfl) (of_decide_eq_true (by kernel_rfl))
        have hq : w1.cell? ⟨g9, 4, none⟩ = some (.bool false) := by rw [Joins.cell_of_block (keepH hbel HG9.out)]; rfl
        exact wp_val (.bool false) (by simp only [execOp, e]; exact load4 _ _ _ hq) (hK _ _ rfl (Below.refl _ _))
      · obtain rfl : (⟨some 31, .unOp UnOp.not 4 (Operand.tmp 30), _, _, _, _⟩ : Oper) = o := Option.some.inj ho
        have hgd := hv 13 28 (by kernel_rfl) (by kernel_rfl) (of_decide_eq_true (by kernel_rfl))
        refine ask_yes 13 28 true rfl (by kernel_rfl) (by rw [hsize]; exact (of_decide_eq_true (by kernel_rfl))) hgd ?_
        have e0 : b.eval (.tmp 30) = .bool false := hv 15 30 (by kernel_rfl) (by kernel_rfl) (of_decide_eq_true (by kernel_rfl))
        exact wp_val (.bool true) (by simp only [execOp, e0]; simp [go_sem]) (hK _ _ rfl (Below.refl _ _))
      · obtain rfl : (⟨some 32, .move (Operand.tmp 31), _, _, _, _⟩ : Oper) = o := Option.some.inj ho
        have hgd := hv 13 28 (by kernel_rfl) (by kernel_rfl) (of_decide_eq_true (by kernel_rfl))
        refine ask_yes 13 28 true rfl (by kernel_rfl) (by rw [hsize]; exact (of_decide_eq_true (by kernel_rfl))) hgd ?_
        have e : b.eval (.tmp 31) = .bool true := hv 16 31 (by kernel_rfl) (by kernel_rfl) (of_decide_eq_true (by kernel_rfl))
        exact wp_val _ rfl (hK _ _ e (Below.refl _ _))
      · obtain rfl : (⟨some 33, .fieldAddr 83 (Operand.tmp 7) 1, _, _, _, _⟩ : Oper) = o := Option.some.inj ho
        have hgd := hv 17 32 (by kernel_rfl) (by kernel_rfl) (of_decide_eq_true (by kernel_rfl))
        refine ask_no 17 32 false true rfl (by kernel_rfl) (by rw [hsize]; exact (of_decide_eq_true (by kernel_rfl))) hgd (by decide) ?_
        exact hK _ _ rfl (Below.refl _ _)
      · obtain rfl : (⟨some 34, .load 3 (Operand.tmp 33), _, _, _, _⟩ : Oper) = o := Option.some.inj ho
        have hgd := hv 17 32 (by kernel_rfl) (by kernel_rfl) (of_decide_eq_true (by kernel_rfl))
        refine ask_no 17 32 false true rfl (by kernel_rfl) (by rw [hsize]; exact (of_decide_eq_true (by kernel_rfl))) hgd (by decide) ?_
        exact hK _ _ rfl (Below.refl _ _)
      · obtain rfl : (⟨some 35, .move (Operand.tmp 2), _, _, _, _⟩ : Oper) = o := Option.some.inj ho
        have hgd := hv 17 32 (by kernel_rfl) (by kernel_rfl) (of_decide_eq_true (by kernel_rfl))
        refine ask_no 17 32 false true rfl (by kernel_rfl) (by rw [hsize]; exact (of_decide_eq_true (by kernel_rfl))) hgd (by decide) ?_
        exact hK _ _ rfl (Below.refl _ _)
      · obtain rfl : (⟨some 36, .binOp BinOp.geq 3 (Operand.tmp 34) (Operand.tmp 35) 3, _, _, _, _⟩ : Oper) = o := Option.some.inj ho
        have hgd := hv 17 32 (by kernel_rfl) (by kernel_rfl) (of_decide_eq_true (by kernel_rfl))
        refine ask_no 17 32 false true rfl (by kernel_rfl) (by rw [hsize]; exact (of_decide_eq_true (by kernel_rfl))) hgd (by decide) ?_
        exact hK _ _ rfl (Below.refl _ _)
      · obtain rfl : (⟨some 37, .move (Operand.tmp 36), _, _, _, _⟩ : Oper) = o := Option.some.inj ho
        have hgd := hv 17 32 (by kernel_rfl) (by kernel_rfl) (of_decide_eq_true (by kernel_rfl))
        refine ask_no 17 32 false true rfl (by kernel_rfl) (by rw [hsize]; exact (of_decide_eq_true (by kernel_rfl))) hgd (by decide) ?_
        exact hK _ _ rfl (Below.refl _ _)
      · obtain rfl : (⟨some 38, .fieldAddr 92 (Operand.tmp 9) 2, _, _, _, _⟩ : Oper) = o := Option.some.inj ho
        have hgd := hv 22 37 (by kernel_rfl) (by kernel_rfl) (of_decide_eq_true (by kernel_rfl))
        refine ask_undef 22 37 true rfl (by kernel_rfl) (by rw [hsize]; exact (of_decide_eq_true (by kernel_rfl))) hgd ?_
        exact hK _ _ rfl (Below.refl _ _)
      · obtain rfl : (⟨some 39, .load 4 (Operand.tmp 38), _, _, _, _⟩ : Oper) = o := Option.some.inj ho
        have hgd := hv 22 37 (by kernel_rfl) (by kernel_rfl) (of_decide_eq_true (by kernel_rfl))
        refine ask_undef 22 37 true rfl (by kernel_rfl) (by rw [hsize]; exact (of_decide_eq_true (by kernel_rfl))) hgd ?_
        exact hK _ _ rfl (Below.refl _ _)
      · obtain rfl : (⟨some 40, .pick (Operand.tmp 37) (Operand.tmp 39) (Operand.const (Value.bool false)), _, _, _, _⟩ : Oper) = o := Option.some.inj ho
        have hgd := hv 17 32 (by kernel_rfl) (by kernel_rfl) (of_decide_eq_true (by kernel_rfl))
        refine ask_no 17 32 false true rfl (by kernel_rfl) (by rw [hsize]; exact (of_decide_eq_true (by kernel_rfl))) hgd (by decide) ?_
        exact hK _ _ rfl (Below.refl _ _)
      · obtain rfl : (⟨some 41, .move (Operand.tmp 40), _, _, _, _⟩ : Oper) = o := Option.some.inj ho
        have hgd := hv 17 32 (by kernel_rfl) (by kernel_rfl) (of_decide_eq_true (by kernel_rfl))
        refine ask_no 17 32 false true rfl (by kernel_rfl) (by rw [hsize]; exact (of_decide_eq_true (by kernel_rfl))) hgd (by decide) ?_
        exact hK _ _ rfl (Below.refl _ _)
      · obtain rfl : (⟨some 42, .fieldAddr 92 (Operand.tmp 9) 0, _, _, _, _⟩ : Oper) = o := Option.some.inj ho
        have hgd := hv 26 41 (by kernel_rfl) (by kernel_rfl) (of_decide_eq_true (by kernel_rfl))
        refine ask_undef 26 41 true rfl (by kernel_rfl) (by rw [hsize]; exact (of_decide_eq_true (by kernel_rfl))) hgd ?_
        exact hK _ _ rfl (Below.refl _ _)
      · obtain rfl : (⟨some 43, .load 4 (Operand.tmp 42), _, _, _, _⟩ : Oper) = o := Option.some.inj ho
        have hgd := hv 26 41 (by kernel_rfl) (by kernel_rfl) (of_decide_eq_true (by kernel_rfl))
        refine ask_undef 26 41 true rfl (by kernel_rfl) (by rw [hsize]; exact (of_decide_eq_true (by kernel_rfl))) hgd ?_
        exact hK _ _ rfl (Below.refl _ _)
      · obtain rfl : (⟨some 44, .unOp UnOp.not 4 (Operand.tmp 43), _, _, _, _⟩ : Oper) = o := Option.some.inj ho
        have hgd := hv 26 41 (by kernel_rfl) (by kernel_rfl) (of_decide_eq_true (by kernel_rfl))
        refine ask_undef 26 41 true rfl (by kernel_rfl) (by rw [hsize]; exact (of_decide_eq_true (by kernel_rfl))) hgd ?_
        exact hK _ _ rfl (Below.refl _ _)
      · obtain rfl : (⟨some 45, .pick (Operand.tmp 41) (Operand.tmp 44) (Operand.const (Value.bool false)), _, _, _, _⟩ : Oper) = o := Option.some.inj ho
        have hgd := hv 17 32 (by kernel_rfl) (by kernel_rfl) (of_decide_eq_true (by kernel_rfl))
        refine ask_no 17 32 false true rfl (by kernel_rfl) (by rw [hsize]; exact (of_decide_eq_true (by kernel_rfl))) hgd (by decide) ?_
        exact hK _ _ rfl (Below.refl _ _)
      · obtain rfl : (⟨some 46, .pick (Operand.tmp 32) (Operand.const (Value.bool true)) (Operand.tmp 45), _, _, _, _⟩ : Oper) = o := Option.some.inj ho
        have hgd := hv 13 28 (by kernel_rfl) (by kernel_rfl) (of_decide_eq_true (by kernel_rfl))
        refine ask_yes 13 28 true rfl (by kernel_rfl) (by rw [hsize]; exact (of_decide_eq_true (by kernel_rfl))) hgd ?_
        have e0 : b.eval (.tmp 32) = .bool true := hv 17 32 (by kernel_rfl) (by kernel_rfl) (of_decide_eq_true (by kernel_rfl))
        have e1 : b.eval (.tmp 45) = undef := hv 30 45 (by kernel_rfl) (by kernel_rfl) (of_decide_eq_true (by kernel_rfl))
        exact wp_val (.bool true) (by simp only [execOp, e0, e1]; rfl) (hK _ _ rfl (Below.refl _ _))
      · obtain rfl : (⟨some 47, .pick (Operand.tmp 28) (Operand.tmp 46) (Operand.const (Value.bool false)), _, _, _, _⟩ : Oper) = o := Option.some.inj ho
        refine ask_plain rfl ?_
        have e0 : b.eval (.tmp 28) = .bool true := hv 13 28 (by kernel_rfl) (by kernel_rfl) (of_decide_eq_true (by kernel_rfl))
        have e1 : b.eval (.tmp 46) = .bool true := hv 31 46 (by kernel_rfl) (by kernel_rfl) (of_decide_eq_true (by kernel_rfl))
        exact wp_val (.bool true) (by simp only [execOp, e0, e1]; rfl) (hK _ _ rfl (Below.refl _ _))
      · obtain rfl : (⟨some 48, .move (Operand.tmp 47), _, _, _, _⟩ : Oper) = o := Option.some.inj ho
        refine ask_plain rfl ?_
        have e : b.eval (.tmp 47) = .bool true := hv 32 47 (by kernel_rfl) (by kernel_rfl) (of_decide_eq_true (by kernel_rfl))
        exact wp_val _ rfl (hK _ _ e (Below.refl _ _))
      · obtain rfl : (⟨some 49, .call { callee := (Callee.value (Operand.func 67)), args := #[], argTypes := #[] }, _, _, _, _⟩ : Oper) = o := Option.some.inj ho
        have hgd := hv 33 48 (by kernel_rfl) (by kernel_rfl) (of_decide_eq_true (by kernel_rfl))
        refine ask_yes 33 48 true rfl (by kernel_rfl) (by rw [hsize]; exact (of_decide_eq_true (by kernel_rfl))) hgd ?_
        refine wp_call_fn 67 #[] #[] rfl Try.f67 _ Try.func67 (by kernel_rfl) rfl #[] (by simp) ((fawake_any w1).mono ?_)
        rintro e w2 ⟨rfl, hb2⟩
        exact ⟨_, rfl, hK _ _ rfl hb2⟩
      · obtain rfl : (⟨some 50, .pick (Operand.tmp 48) (Operand.tmp 49) (Operand.const (Value.bool false)), _, _, _, _⟩ : Oper) = o := Option.some.inj ho
        refine ask_plain rfl ?_
        have e0 : b.eval (.tmp 48) = .bool true := hv 33 48 (by kernel_rfl) (by kernel_rfl) (of_decide_eq_true (by kernel_rfl))
        have e1 : b.eval (.tmp 49) = .bool true := hv 34 49 (by kernel_rfl) (by kernel_rfl) (of_decide_eq_true (by kernel_rfl))
        exact wp_val (.bool true) (by simp only [execOp, e0, e1]; rfl) (hK _ _ rfl (Below.refl _ _))
    · intro vs w5 hp hb5
      have HB5 := Lib.hid (HB3.out.trans (hb5.mono HB3.out.size))
      have v35 : vs 35 = .bool true := hp 35 (by decide)
      change wpList _ _ _ [_] _ _
      simp only [putD, Act.put, List.setIfInBounds_toArray, List.set_cons_zero, List.set_cons_succ, v35]
      generalize vs 0 = y0, vs 1 = y1, vs 2 = y2, vs 3 = y3
      clear hp hb5
      go_wp2
      go_ret
      exact ⟨rfl, HB5.out⟩
end Go.Proofs.Ytjaakhjfpigdfaa
