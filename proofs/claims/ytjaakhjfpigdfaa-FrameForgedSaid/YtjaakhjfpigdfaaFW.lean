import Derived.Test.YtjaakhjfpigdfaaGC
import Derived.Test.YtjaakhjfpigdfaaHA
/-! FrameForged. -/
namespace Go.Proofs.Ytjaakhjfpigdfaa
open Go.RowKit
set_option linter.unusedVariables false
set_option linter.unusedSimpArgs false
/-- A frame's cells. -/
def frC (f : Fr) (u : Value) : Array Value := #[.int .i64 f.fr, .int .i64 f.ep, .int .u64 (f.me.toNat : Int), .int .u64 (f.you.toNat : Int), .int .i64 f.n, u, .int .i64 f.all, .int .u64 (f.more.toNat : Int)]
theorem frV_C (f : Fr) (u : Value) : frV f u = .agg (frC f u) := rfl
theorem frC_size (f : Fr) (u : Value) : (frC f u).size = 8 := rfl
theorem frC_one {w : World} {p : By} (f : Fr) {u : Value} (h : EqN w p u) : (frC f u).all (·.oneCell') = true := by
  obtain ⟨A, n, c, rfl⟩ := h.form
  exact fr_cells_one f A n c
theorem frC_u8 {w : World} {p : By} (f : Fr) {u : Value} (h : EqN w p u) : ∀ (j : Nat) (x : Int), (frC f u)[j]? ≠ some (.int .u8 x) := by
  obtain ⟨A, n, c, rfl⟩ := h.form
  intro j x hj
  rcases j with _ | _ | _ | _ | _ | _ | _ | _ | j <;> simp [frC] at hj
theorem no_u8 {w : World} {g : Nat} {C : Array Value} {t : TypeId} (h : w.heap[g]? = some (.cells C t (0, 0))) (hn : ∀ (j : Nat) (x : Int), C[j]? ≠ some (.int .u8 x)) : ∀ (ad : Addr) (x : Int), w.cell? ad = some (.int .u8 x) → ad.block ≠ g := by
  intro ad x hc e
  subst e
  unfold World.cell? at hc
  rw [h] at hc
  simp only at hc
  split at hc
  · cases hc
  · exact hn _ _ hc
theorem own_setCell {w : World} {base n g cap k : Nat} {l : By} (h : w.ownsRow base 5 1 (.slice (some ⟨g, 0, none⟩) n cap) n (bytesV l)) (hk : k < n) (y : BitVec 8) : (w.setCell ⟨g, k, none⟩ (.int .u8 (y.toNat : Int))).ownsRow base 5 1 (.slice (some ⟨g, 0, none⟩) n cap) n (bytesV (l.set k y)) := by
  have hl : l.length = n := by have := h.1; simpa [bytesV] using this
  rcases h.2 with ⟨h0, _⟩ | ⟨g', cap', cur, e, hb, hg, h1, h2, h3, h4⟩
  · cases h0
  · simp only [Value.slice.injEq, Option.some.injEq, Addr.mk.injEq] at e
    obtain ⟨⟨rfl, _⟩, _, rfl⟩ := e
    refine ⟨by simp [bytesV, hl], .inr ⟨g, cap, _, rfl, hb, heap_setCell hg k _, h1, h2, by simpa using h3, ?_⟩⟩
    have h4' : cur.toList.take n = bytesV l := by simpa using h4
    rw [Nat.mul_one, Array.toList_setIfInBounds, List.take_set, h4']
    simp [bytesV, List.map_set]
theorem set_ne (Z : By) (i : Nat) (y : BitVec 8) (hi : i < Z.length) (hy : y ≠ Z.getD i 0) : ¬ Z = Z.set i y := fun e => by
  apply hy
  have h3 := congrArg (fun l => l.getD i 0) e
  simp only [List.getD_eq_getElem?_getD] at h3 ⊢
  rw [h3, List.getElem?_set_self hi]
  rfl
theorem set_seal (b Z : By) (i : Nat) (y : BitVec 8) : (b ++ Z).set (b.length + i) y = b ++ Z.set i y := by
  rw [List.set_append_right _ _ (by omega), show b.length + i - b.length = i by omega]
/-- Another MAC is refused. -/
theorem op_forged (k : By) (f : Fr) (h : okF f = true) (i : Nat) (y : BitVec 8) (hi : i < 32) (hy : y ≠ (sealF k (BitVec.ofInt 8 f.fr) (bodyF f)).getD i 0) : opF k (bodyF f ++ (sealF k (BitVec.ofInt 8 f.fr) (bodyF f)).set i y) = (zeroFr, 40) := by
  have hl := sealF_len k (BitVec.ofInt 8 f.fr) (bodyF f)
  have hne := set_ne (sealF k (BitVec.ofInt 8 f.fr) (bodyF f)) i y (by omega) hy
  have hn : (bodyF f ++ (sealF k (BitVec.ofInt 8 f.fr) (bodyF f)).set i y).length = (bodyF f).length + 32 := by rw [List.length_append, List.length_set, hl]
  have hb : bodyOf (bodyF f ++ (sealF k (BitVec.ofInt 8 f.fr) (bodyF f)).set i y) = bodyF f := by
    unfold bodyOf
    rw [hn, show (bodyF f).length + 32 - 32 = (bodyF f).length by omega, List.take_left]
  have ht : tagOf (bodyF f ++ (sealF k (BitVec.ofInt 8 f.fr) (bodyF f)).set i y) = (sealF k (BitVec.ofInt 8 f.fr) (bodyF f)).set i y := by
    unfold tagOf
    rw [hn, show (bodyF f).length + 32 - 32 = (bodyF f).length by omega, List.drop_left]
  unfold opF
  rw [if_neg (by omega), hb, parse_body f h, ht]
  simp only
  rw [if_neg hne]
theorem zeroFr_v (u : Value) : frV zeroFr u = .agg #[.int .i64 0, .int .i64 0, .int .u64 0, .int .u64 0, .int .i64 0, u, .int .i64 0, .int .u64 0] := by kernel_rfl
def pdFF (kv0 : Value) (k3 : By) (FC : Array Value) (f1 : Fr) : Nat → Value → World → Prop
  | 0 => fun v w => v = kv0
  | 1 => fun v w => EqN w k3 v
  | 2 => fun v w => v = .agg FC
  | 3 => fun v w => ∃ u, v = frV f1 u ∧ EqN w f1.body u
  | _ => fun _ _ => True
theorem pdFF_mono (kv0 : Value) (k3 : By) (FC : Array Value) (f1 : Fr) : ∀ q0 v w w', pdFF kv0 k3 FC f1 q0 v w → Below w.heap.size w w' → pdFF kv0 k3 FC f1 q0 v w'
  | 0, _, _, _, h, _ => h
  | 1, _, _, _, h, hb => EqN.below h hb
  | 2, _, _, _, h, _ => h
  | 3, _, _, _, h, hb => by obtain ⟨u, e, h2⟩ := h; exact ⟨u, e, h2.below hb⟩
  | _ + 4, _, _, _, _, _ => trivial
set_option maxRecDepth 100000 in
set_option maxHeartbeats 8000000 in
theorem frameForged_true (k : By) (A0 : Option Addr) (c0 : Nat) (f : Fr) (Af : Option Addr) (cf : Nat) (at' x : BitVec 8) (w : World) (hr : RdB w A0 k) (hc : k.length ≤ c0) (y0 : k.length * 1 ≤ 140737488351232) (hn : A0 = none → c0 = 0) (hrf : RdB w Af f.body) (hlf : f.body.length ≤ cf) (hnf : Af = none → cf = 0) :
    Calls Try.prog 23 #[.slice A0 k.length c0, frV f (.slice Af f.body.length cf), .int .u8 (at'.toNat : Int), .int .u8 (x.toNat : Int)] w fun e w' => e = .returned (.bool true) ∧ Below w.heap.size w w' := by
  have hk : EqN w k (.slice A0 k.length c0) := ⟨A0, c0, rfl, hc, hr, hn⟩
  have hf : EqN w f.body (.slice Af f.body.length cf) := ⟨Af, cf, rfl, hlf, hrf, hnf⟩
  obtain ⟨kv0, hkv0⟩ : ∃ v, Value.slice A0 k.length c0 = v := ⟨_, rfl⟩
  obtain ⟨uf, huf⟩ : ∃ v, Value.slice Af f.body.length cf = v := ⟨_, rfl⟩
  rw [hkv0] at hk ⊢
  rw [huf] at hf ⊢
  have n5 := Lib.hid (frC_u8 f hf)
  have LF := fun w' (hb : Below w.heap.size w w') => light_any f uf w' (hf.below hb)
  simp only [frV_C f uf] at LF ⊢
  have sF := frC_size f uf
  obtain ⟨FC, hFC⟩ : ∃ F, frC f uf = F := ⟨_, rfl⟩
  rw [hFC] at n5 sF ⊢
  simp only [hFC] at LF
  obtain ⟨f1, hf1⟩ : ∃ q, lightF f = q := ⟨_, rfl⟩
  simp only [hf1] at LF
  have hkl : (k.take 3000).length ≤ 1000000 := by rw [List.length_take]; omega
  obtain ⟨k3, hk3⟩ : ∃ q, k.take 3000 = q := ⟨_, rfl⟩
  have HK3 := Lib.hid hk3
  rw [hk3] at hkl
  have HKL := Lib.hid hkl
  have x5 := heap_new w (.cells FC 83) w.heap.size rfl
  have b2 := below_alloc1 w (.cells FC 83)
  obtain ⟨W1, hW1⟩ : ∃ W, w.alloc (.cells FC 83) = W := ⟨_, rfl⟩
  rw [hW1] at x5 b2
  have HW1 := Lib.hid hW1
  have HX51 := Lib.hid x5
  have HB1 := Lib.hid b2
  have HKW := Lib.hid hk
  have HLW := Lib.hid LF
  obtain ⟨g5, hg5⟩ : ∃ q, w.heap.size = q := ⟨_, rfl⟩
  rw [hg5] at HX51
  have HG5 := Lib.hid hg5
  have HSF := Lib.hid (show (Try.prog.info? 83).map (·.size) = some FC.size by rw [sF]; kernel_rfl)
  have HFS := Lib.hid sF
  clear hr hc y0 hn hrf hlf hnf hk hf hkv0 huf LF sF hFC hf1 hkl hk3 x5 b2 hW1 hg5
  go_enter Try.func23, Try.ntmps23
  go_upto_region 1 with (fail)
  rw [HW1.out, HG5.out]
  clear HW1
  go_wp2_with fail
  refine (fawake_any W1).mono ?_
  rintro e W2 ⟨rfl, hb2⟩
  have HX5 := Lib.hid (keepH hb2 HX51.out)
  have HB2 := Lib.hid (HB1.out.trans (hb2.mono HB1.out.size))
  have HKV := Lib.hid (HKW.out.below HB2.out)
  have HLF := Lib.hid (fun w' (hb : Below W2.heap.size W2 w') => HLW.out w' (HB2.out.trans (hb.mono HB2.out.size)))
  clear hb2 HX51 HB1 HKW HLW
  go_upto_region 3 with (fail)
  refine wp_region_mono (w0 := _) 4 [some 16, some 17, some 18, some 19] (by kernel_rfl) (by kernel_rfl) (by kernel_rfl) (by kernel_rfl) (of_decide_eq_true (by kernel_rfl)) (by kernel_rfl) (pdFF kv0 k3 FC f1) ?_ ?_ ?_
  · exact pdFF_mono kv0 k3 FC f1
  · intro i hi o w1 b ho hbel hv hstood hsize K hK
    have hc : i = 0 ∨ i = 1 ∨ i = 2 ∨ i = 3 := by omega
    rcases hc with rfl | rfl | rfl | rfl
    · obtain rfl : (⟨some 16, .move (Operand.tmp 0), _, _, _, _⟩ : Oper) = o := Option.some.inj ho
      refine ask_plain rfl ?_
      have e : b.eval (.tmp 0) = kv0 := (hstood 0 (by kernel_rfl)).trans rfl
      exact wp_val _ rfl (hK _ _ e (Below.refl _ _))
    · obtain rfl : (⟨some 17, .call { callee := (Callee.value (Operand.func 59)), args := #[(Operand.tmp 16)], argTypes := #[35] }, _, _, _, _⟩ : Oper) = o := Option.some.inj ho
      refine ask_plain rfl ?_
      have e1 : b.eval (.tmp 16) = kv0 := hv 0 16 (by kernel_rfl) (by kernel_rfl) (of_decide_eq_true (by kernel_rfl))
      refine wp_call_fn 59 #[.tmp 16] #[35] rfl Try.f59 _ Try.func59 (by kernel_rfl) rfl #[kv0] (by simp [e1]) ((cut59_any k kv0 w1 (HKV.out.below hbel)).mono ?_)
      rintro e w2 ⟨u2, rfl, hE2, rfl⟩
      exact ⟨_, rfl, hK _ _ (by rw [← HK3.out]; exact hE2 _ (HKV.out.below hbel)) (Below.refl _ _)⟩
    · obtain rfl : (⟨some 18, .load 83 (Operand.tmp 5), _, _, _, _⟩ : Oper) = o := Option.some.inj ho
      refine ask_plain rfl ?_
      have e1 : b.eval (.tmp 5) = .pointer (some ⟨g5, 0, none⟩) := (hstood 5 (by kernel_rfl)).trans rfl
      exact wp_load_cells 83 (.tmp 5) rfl ⟨g5, 0, none⟩ e1 FC _ rfl (fun j v hj => by rw [add_zero_off, Joins.cell_of_block (keepH hbel HX5.out)]; exact hj) Try.underlying83 HSF.out (hK _ _ rfl (Below.refl _ _))
    · obtain rfl : (⟨some 19, .call { callee := (Callee.value (Operand.func 60)), args := #[(Operand.tmp 18)], argTypes := #[83] }, _, _, _, _⟩ : Oper) = o := Option.some.inj ho
      refine ask_plain rfl ?_
      have e1 : b.eval (.tmp 18) = .agg FC := hv 2 18 (by kernel_rfl) (by kernel_rfl) (of_decide_eq_true (by kernel_rfl))
      refine wp_call_fn 60 #[.tmp 18] #[83] rfl Try.f60 _ Try.func60 (by kernel_rfl) rfl #[.agg FC] (by simp [e1]) ((HLF.out w1 hbel).mono ?_)
      rintro e w2 ⟨u2, rfl, hE2, hb2⟩
      exact ⟨_, rfl, hK _ _ ⟨u2, rfl, hE2⟩ hb2⟩
  · intro vs w6 hp hb6
    have hk6 : EqN w6 k3 (vs 1) := hp 1 (by decide)
    obtain ⟨uf2, e3, hf6⟩ : ∃ u, vs 3 = frV f1 u ∧ EqN w6 f1.body u := hp 3 (by decide)
    change wpList _ _ _ [_, _] _ _
    simp only [putD, Act.put, List.setIfInBounds_toArray, List.set_cons_zero, List.set_cons_succ, e3, frV_C]
    obtain ⟨kv, hkv⟩ : ∃ v, vs 1 = v := ⟨_, rfl⟩
    rw [hkv] at hk6 ⊢
    generalize vs 0 = y0, vs 2 = y2
    have x5 := keepH hb6 HX5.out
    have b6 := HB2.out.trans (hb6.mono HB2.out.size)
    have HF1 := Lib.hid (frC_one f1 hf6)
    have hvf := frV_C f1 uf2
    have sF := frC_size f1 uf2
    obtain ⟨F2, hF2⟩ : ∃ F, frC f1 uf2 = F := ⟨_, rfl⟩
    rw [hF2] at HF1 hvf sF ⊢
    have X5 := Lib.hid x5
    have HSF2 := Lib.hid (show (Try.prog.info? 83).map (·.size) = some F2.size by rw [sF]; kernel_rfl)
    have HFF := Lib.hid (show FC.size = F2.size by rw [sF, HFS.out])
    have HK6 := hk6.bes ((Bes.refl g5 w6).setRow F2) (no_u8 x5 n5.out)
    have HF6 := hf6.bes ((Bes.refl g5 w6).setRow F2) (no_u8 x5 n5.out)
    have y5h : (w6.setRow g5 F2).heap[g5]? = some (.cells F2 83 (0, 0)) := setRow_heap w6 g5 _ F2 83 _ x5
    have b7 : Below w.heap.size w (w6.setRow g5 F2) := below_setRow _ _ b6 (Nat.le_of_eq HG5.out)
    clear hp hb6 hk6 hf6 hkv e3 x5 b6 hF2 sF HX5 HB2 HLF
    go_upto_region 4 with (first | ((with_reducible show wpList _ _ _ (⟨none, .store 83 (.tmp 5) (.tmp 19), _, _, _, _⟩ :: _) _ _); refine wpList_store_row rfl 83 (.tmp 5) (.tmp 19) rfl g5 F2 rfl rfl 83 _ X5.out HSF2.out HFF.out HF1.out ?_) | fail)
    obtain ⟨W7, hW7⟩ : ∃ W, w6.setRow g5 F2 = W := ⟨_, rfl⟩
    rw [hW7] at HK6 HF6 y5h b7 ⊢
    have Y5 := Lib.hid y5h
    have B7 := Lib.hid b7
    have K7 := Lib.hid HK6
    have S1 := fSeal_any k3 kv f1 uf2 W7 HK6 HKL.out HF6
    rw [hvf] at S1
    have HS1 := Lib.hid S1
    clear HK6 HF6 y5h b7 hW7 hvf S1 X5
    have hxl := x.isLt
    by_cases hok : okF f1 = true
    · have hfl := bodyF_len f1 hok
      have hml := sealF_len k3 (BitVec.ofInt 8 f1.fr) (bodyF f1)
      have hfo := op_forged k3 f1 hok
      have hsb : sealB k3 f1 = bodyF f1 ++ sealF k3 (BitVec.ofInt 8 f1.fr) (bodyF f1) := by unfold sealB; rw [if_pos hok]
      have hS := HS1.out
      rw [hsb, show okE f1 = 0 by unfold okE; rw [if_pos hok]] at hS
      obtain ⟨Bd, hBd⟩ : ∃ q, bodyF f1 = q := ⟨_, rfl⟩
      rw [hBd] at hfl hml hfo hS
      obtain ⟨Z, hZ⟩ : ∃ q, sealF k3 (BitVec.ofInt 8 f1.fr) Bd = q := ⟨_, rfl⟩
      rw [hZ] at hml hfo hS
      obtain ⟨m, hm⟩ : ∃ q, Bd.length = q := ⟨_, rfl⟩
      have HM := Lib.hid hm
      have HZL := Lib.hid hml
      have HFO := Lib.hid hfo
      have hsl : (Bd ++ Z).length = m + 32 := by rw [List.length_append, HZL.out, hm]
      have HSL := Lib.hid hsl
      rw [hm] at hfl
      have HSS := Lib.hid hS
      clear hml hfo hsb hS hBd hZ hm hsl hok HS1
      go_wp2_with (first | ((with_reducible show wpList _ _ _ (⟨some 22, .load 83 (.tmp 5), _, _, _, _⟩ :: _) _ _); refine wpList_load_cells rfl 83 (.tmp 5) rfl ⟨g5, 0, none⟩ rfl F2 _ rfl (fun j v hj => by rw [add_zero_off, Joins.cell_of_block Y5.out]; exact hj) Try.underlying83 HSF2.out ?_) | fail)
      refine HSS.out.mono ?_
      rintro e w8 ⟨v9, rfl, hown, hb8⟩
      have hown : w8.ownsRow W7.heap.size 5 1 v9 (Bd ++ Z).length (bytesV (Bd ++ Z)) := hown
      rw [HSL.out] at hown
      obtain ⟨g, cap, rfl⟩ := Joins.ownsRow_form hown (by omega)
      have HO4 := Lib.hid hown
      have B8 := Lib.hid (B7.out.trans (hb8.mono B7.out.size))
      have K8 := Lib.hid (K7.out.below hb8)
      have HB78 := Lib.hid hb8
      have hcapm : m + 32 ≤ cap := by
        rcases hown.2 with ⟨h0, _⟩ | ⟨g', cap', cur, e, _, _, h1, _⟩
        · cases h0
        · simp only [Value.slice.injEq] at e
          omega
      clear hown hb8 HSS Y5
      by_cases hx : x.toNat = 0
      · have hdx : decide ((x.toNat : Int) = 0) = true := by simp; omega
        have hdx2 : ((x.toNat : Int) == 0) = true := by simp; omega
        have hd32 : decide ((32 : Int) ≤ (m : Int) + 32) = true := by simp; omega
        have HD32 := Lib.hid hd32
        clear hd32
        go_wp2
        go_ret
        refine ⟨?_, B8.out⟩
        show Ending.returned (Value.bool (decide ((32 : Int) ≤ (m : Int) + 32))) = _
        rw [HD32.out]
      · have hdx : decide ((x.toNat : Int) = 0) = false := by simp; omega
        have hdx2 : ((x.toNat : Int) == 0) = false := by simp; omega
        obtain ⟨i, hi⟩ : ∃ i, at'.toNat % 32 = i := ⟨_, rfl⟩
        have hi32 : i < 32 := by omega
        have hiI : (at'.toNat : Int) % 32 = (i : Int) := by omega
        have hiT : (at'.toNat : Int).tmod 32 = (i : Int) := by rw [Int.tmod_eq_emod_of_nonneg (by omega)]; exact hiI
        have hatl := at'.isLt
        have hcell : w8.cell? ⟨g, m + i, none⟩ = some (.int .u8 ((Z.getD i 0).toNat : Int)) := by
          obtain ⟨A', c', e', _, hr', _⟩ := EqN.own HO4.out
          simp only [Value.slice.injEq] at e'
          obtain ⟨rfl, _, rfl⟩ := e'
          obtain ⟨ad, e2, hc2⟩ := RdB.at' hr' (m + i) (by rw [HSL.out]; omega)
          obtain rfl := Option.some.inj e2
          rw [add_zero_off] at hc2
          rw [hc2]
          have e3 : (Bd ++ Z)[m + i]'(by rw [HSL.out]; omega) = Z.getD i 0 := by
            rw [List.getElem_append_right (by rw [HM.out]; omega), List.getD_eq_getElem?_getD, List.getElem?_eq_getElem (by rw [HZL.out]; exact hi32)]
            simp [HM.out]
          rw [e3]
        have hfz : w8.frozen? ⟨g, m + i, none⟩ = false := by
          rcases HO4.out.2 with ⟨h0, _⟩ | ⟨g', cap', cur, e, _, hg, _⟩
          · cases h0
          · simp only [Value.slice.injEq, Option.some.injEq, Addr.mk.injEq] at e
            obtain ⟨⟨rfl, _⟩, _, _⟩ := e
            exact fr_of hg _
        have hgb : W7.heap.size ≤ g := own_base' HO4.out g rfl
        have hgw : w.heap.size ≤ g := Nat.le_trans B7.out.size hgb
        obtain ⟨z, hz⟩ : ∃ z, Z.getD i 0 = z := ⟨_, rfl⟩
        rw [hz] at hcell
        have hx8 := xor8 z x
        have hyz : z ^^^ x ≠ z := fun e => by
          have h2 : z ^^^ (z ^^^ x) = z ^^^ z := by rw [e]
          rw [← BitVec.xor_assoc, BitVec.xor_self] at h2
          have h3 : x = 0 := by simpa using h2
          exact hx (by rw [h3]; rfl)
        obtain ⟨y, hy⟩ : ∃ y, z ^^^ x = y := ⟨_, rfl⟩
        rw [hy] at hx8 hyz
        have hop2 := HFO.out i y hi32 (by rw [hz]; exact hyz)
        have HO5 := Lib.hid (own_setCell HO4.out (show m + i < m + 32 by omega) y)
        have B5 := Lib.hid (B8.out.setCell (p := ⟨g, m + i, none⟩) hgw (.int .u8 (y.toNat : Int)))
        have K9 := Lib.hid (show EqN (w8.setCell ⟨g, m + i, none⟩ (.int .u8 (y.toNat : Int))) k3 kv from K7.out.below (HB78.out.setCell (p := ⟨g, m + i, none⟩) hgb (.int .u8 (y.toNat : Int))))
        obtain ⟨W9, hW9⟩ : ∃ W, w8.setCell ⟨g, m + i, none⟩ (.int .u8 (y.toNat : Int)) = W := ⟨_, rfl⟩
        rw [hW9] at HO5 B5 K9
        rw [show (Bd ++ Z).set (m + i) y = Bd ++ Z.set i y by rw [← HM.out]; exact set_seal Bd Z i y] at HO5
        have hsl5 : (Bd ++ Z.set i y).length = m + 32 := by rw [List.length_append, List.length_set, HZL.out, HM.out]
        have OP2 := Lib.hid (fOpen_any k3 kv (Bd ++ Z.set i y) (.slice (some ⟨g, 0, none⟩) (m + 32) cap) W9 K9.out HKL.out (EqN.own HO5.out) (by rw [hsl5]; omega))
        rw [hop2] at OP2
        have HW9 := Lib.hid hW9
        have m1 : ((m : Int) + (i : Int)).toNat = m + i := by omega
        have l1 : (m : Int) + (i : Int) < (m : Int) + 32 := by omega
        have l2 : 0 ≤ (m : Int) + (i : Int) := by omega
        have l3 : (m : Int) + (i : Int) ≤ 140737488355328 := by omega
        have hiIlt : (i : Int) < 32 := by omega
        clear hW9 hop2 hsl5 hy hyz hz hi HO4 hx hgb hgw
        go_wp2_with fail
        rw [HW9.out]
        refine OP2.out.mono ?_
        rintro e w10 ⟨u10, rfl, hE10, hb10⟩
        have hE10 : EqN w10 [] u10 := hE10
        obtain ⟨A10, n10, c10, hu10⟩ := hE10.form
        subst hu10
        have B10 := B5.out.trans (hb10.mono B5.out.size)
        have RS := rfsame_any zeroFr zeroFr (.slice A10 n10 c10) (.slice none 0 0) _ (hE10.alloc (.cells #[.int .i64 0, .int .i64 0, .int .u64 0, .int .u64 0, .int .i64 0, .slice A10 n10 c10, .int .i64 0, .int .u64 0] 83)) (EqN.nil _)
        rw [zeroFr_v, zeroFr_v, (sameF_iff zeroFr zeroFr).2 rfl] at RS
        have HRS := Lib.hid RS
        have HB10 := Lib.hid (B10.trans ((below_alloc1 w10 (.cells #[.int .i64 0, .int .i64 0, .int .u64 0, .int .u64 0, .int .i64 0, .slice A10 n10 c10, .int .i64 0, .int .u64 0] 83)).mono B10.size))
        rw [zeroFr_v]
        clear hE10 hb10 B10 RS OP2 HW9 HO5 B5 K9 hcell hfz
        go_wp2_with fail
        refine HRS.out.mono ?_
        rintro e w11 ⟨rfl, hb11⟩
        have HB11 := Lib.hid (HB10.out.trans (hb11.mono HB10.out.size))
        clear hb11 HRS
        go_wp2
        go_ret
        exact ⟨rfl, HB11.out⟩
    · have hS := HS1.out
      rw [show okE f1 = 180 by unfold okE; rw [if_neg hok]] at hS
      have HSS := Lib.hid hS
      clear hS hok HS1
      go_wp2_with (first | ((with_reducible show wpList _ _ _ (⟨some 22, .load 83 (.tmp 5), _, _, _, _⟩ :: _) _ _); refine wpList_load_cells rfl 83 (.tmp 5) rfl ⟨g5, 0, none⟩ rfl F2 _ rfl (fun j v hj => by rw [add_zero_off, Joins.cell_of_block Y5.out]; exact hj) Try.underlying83 HSF2.out ?_) | fail)
      refine HSS.out.mono ?_
      rintro e w8 ⟨v9, rfl, hown, hb8⟩
      have B8 := Lib.hid (B7.out.trans (hb8.mono B7.out.size))
      clear hown hb8 HSS
      go_wp2
      go_ret
      exact ⟨rfl, B8.out⟩
end Go.Proofs.Ytjaakhjfpigdfaa
