import Derived.Test.YtjaakhjfpigdfaaGC
import Derived.Test.YtjaakhjfpigdfaaHA
/-! FrameBack. -/
namespace Go.Proofs.Ytjaakhjfpigdfaa
open Go.RowKit
set_option linter.unusedVariables false
set_option linter.unusedSimpArgs false
/-- A frame's cells. -/
def frC (f : Fr) (u : Value) : Array Value := #[.int .i64 f.fr, .int .i64 f.ep, .int .u64 (f.me.toNat : Int), .int .u64 (f.you.toNat : Int), .int .i64 f.n, u, .int .i64 f.all, .int .u64 (f.more.toNat : Int)]
theorem frV_C (f : Fr) (u : Value) : frV f u = .agg (frC f u) := rfl
theorem frC_size (f : Fr) (u : Value) : (frC f u).size = 8 := rfl
theorem frC_one {w : World} {p : By} (f : Fr) {u : Value} (h : EqN w p u) : (frC f u).all (·.oneCell') = true := by
  obtain ⟨A, n, c, rfl⟩ := h.form
  exact fr_cells_one f A n c
theorem frC_u8 {w : World} {p : By} (f : Fr) {u : Value} (h : EqN w p u) : ∀ (j : Nat) (x : Int), (frC f u)[j]? ≠ some (.int .u8 x) := by
  obtain ⟨A, n, c, rfl⟩ := h.form
  intro j x hj
  rcases j with _ | _ | _ | _ | _ | _ | _ | _ | j <;> simp [frC] at hj
theorem no_u8 {w : World} {g : Nat} {C : Array Value} {t : TypeId} (h : w.heap[g]? = some (.cells C t (0, 0))) (hn : ∀ (j : Nat) (x : Int), C[j]? ≠ some (.int .u8 x)) : ∀ (ad : Addr) (x : Int), w.cell? ad = some (.int .u8 x) → ad.block ≠ g := by
  intro ad x hc e
  subst e
  unfold World.cell? at hc
  rw [h] at hc
  simp only at hc
  split at hc
  · cases hc
  · exact hn _ _ hc
theorem zeroFr_v (u : Value) : frV zeroFr u = .agg #[.int .i64 0, .int .i64 0, .int .u64 0, .int .u64 0, .int .i64 0, u, .int .i64 0, .int .u64 0] := by kernel_rfl
/-- What is opened has just these bytes. -/
theorem seal_op (k b : By) (f : Fr) (h : opF k b = (f, 0)) : okF f = true ∧ sealB k f = b := by
  unfold opF at h
  split at h
  · simp at h
  · cases hp : parseF (bodyOf b) with
    | none => rw [hp] at h; simp at h
    | some f' =>
      rw [hp] at h
      simp only at h
      split at h
      · rename_i hq
        obtain ⟨rfl, _⟩ := Prod.mk.inj h
        obtain ⟨h1, h2⟩ := parse_some _ _ hp
        refine ⟨h1, ?_⟩
        unfold sealB
        rw [if_pos h1, h2, hq]
        exact body_tag b
      · simp at h
theorem op_cases (k b : By) : (∃ f, opF k b = (f, 0)) ∨ (∃ e : Int, opF k b = (zeroFr, e) ∧ e ≠ 0) := by
  unfold opF
  split
  · exact .inr ⟨180, rfl, by decide⟩
  · cases parseF (bodyOf b) with
    | none => exact .inr ⟨180, rfl, by decide⟩
    | some f =>
      simp only
      split
      · exact .inl ⟨f, rfl⟩
      · exact .inr ⟨40, rfl, by decide⟩
def pdFBk (kv0 bv0 : Value) (k3 b3 : By) (FC : Array Value) (f1 : Fr) : Nat → Value → World → Prop
  | 0 => fun v w => v = kv0
  | 1 => fun v w => EqN w k3 v
  | 2 => fun v w => v = .agg FC
  | 3 => fun v w => ∃ u, v = frV f1 u ∧ EqN w f1.body u
  | 4 => fun v w => v = bv0
  | 5 => fun v w => EqN w b3 v
  | _ => fun _ _ => True
theorem pdFBk_mono (kv0 bv0 : Value) (k3 b3 : By) (FC : Array Value) (f1 : Fr) : ∀ q0 v w w', pdFBk kv0 bv0 k3 b3 FC f1 q0 v w → Below w.heap.size w w' → pdFBk kv0 bv0 k3 b3 FC f1 q0 v w'
  | 0, _, _, _, h, _ => h
  | 1, _, _, _, h, hb => EqN.below h hb
  | 2, _, _, _, h, _ => h
  | 3, _, _, _, h, hb => by obtain ⟨u, e, h2⟩ := h; exact ⟨u, e, h2.below hb⟩
  | 4, _, _, _, h, _ => h
  | 5, _, _, _, h, hb => EqN.below h hb
  | _ + 6, _, _, _, _, _ => trivial
set_option maxRecDepth 100000 in
set_option maxHeartbeats 8000000 in
theorem frameBack_true (k : By) (A0 : Option Addr) (c0 : Nat) (f : Fr) (Af : Option Addr) (cf : Nat) (b : By) (B0 : Option Addr) (d0 : Nat) (w : World) (hr : RdB w A0 k) (hc : k.length ≤ c0) (y0 : k.length * 1 ≤ 140737488351232) (hn : A0 = none → c0 = 0) (hrf : RdB w Af f.body) (hlf : f.body.length ≤ cf) (hnf : Af = none → cf = 0) (hrb : RdB w B0 b) (hd : b.length ≤ d0) (y1 : b.length * 1 ≤ 140737488351232) (hnb : B0 = none → d0 = 0) :
    Calls Try.prog 22 #[.slice A0 k.length c0, frV f (.slice Af f.body.length cf), .slice B0 b.length d0] w fun e w' => e = .returned (.bool true) ∧ Below w.heap.size w w' := by
  have hk : EqN w k (.slice A0 k.length c0) := ⟨A0, c0, rfl, hc, hr, hn⟩
  have hbE : EqN w b (.slice B0 b.length d0) := ⟨B0, d0, rfl, hd, hrb, hnb⟩
  have hf : EqN w f.body (.slice Af f.body.length cf) := ⟨Af, cf, rfl, hlf, hrf, hnf⟩
  obtain ⟨kv0, hkv0⟩ : ∃ v, Value.slice A0 k.length c0 = v := ⟨_, rfl⟩
  obtain ⟨uf, huf⟩ : ∃ v, Value.slice Af f.body.length cf = v := ⟨_, rfl⟩
  obtain ⟨bv0, hbv0⟩ : ∃ v, Value.slice B0 b.length d0 = v := ⟨_, rfl⟩
  rw [hkv0] at hk ⊢
  rw [hbv0] at hbE ⊢
  rw [huf] at hf ⊢
  have n5 := Lib.hid (frC_u8 f hf)
  have LF := fun w' (hb : Below w.heap.size w w') => light_any f uf w' (hf.below hb)
  simp only [frV_C f uf] at LF ⊢
  have sF := frC_size f uf
  obtain ⟨FC, hFC⟩ : ∃ F, frC f uf = F := ⟨_, rfl⟩
  rw [hFC] at n5 sF ⊢
  simp only [hFC] at LF
  obtain ⟨f1, hf1⟩ : ∃ q, lightF f = q := ⟨_, rfl⟩
  simp only [hf1] at LF
  have hkl : (k.take 3000).length ≤ 1000000 := by rw [List.length_take]; omega
  obtain ⟨k3, hk3⟩ : ∃ q, k.take 3000 = q := ⟨_, rfl⟩
  have HK3 := Lib.hid hk3
  rw [hk3] at hkl
  have HKL := Lib.hid hkl
  have hbl : (b.take 3000).length ≤ 1000000 := by rw [List.length_take]; omega
  obtain ⟨b3, hb3⟩ : ∃ q, b.take 3000 = q := ⟨_, rfl⟩
  have HBB3 := Lib.hid hb3
  rw [hb3] at hbl
  have HBL := Lib.hid hbl
  have x5 := heap_new w (.cells FC 83) w.heap.size rfl
  have b2 := below_alloc1 w (.cells FC 83)
  obtain ⟨W1, hW1⟩ : ∃ W, w.alloc (.cells FC 83) = W := ⟨_, rfl⟩
  rw [hW1] at x5 b2
  have HW1 := Lib.hid hW1
  have HX51 := Lib.hid x5
  have HB1 := Lib.hid b2
  have HKW := Lib.hid hk
  have HBWW := Lib.hid hbE
  have HLW := Lib.hid LF
  obtain ⟨g5, hg5⟩ : ∃ q, w.heap.size = q := ⟨_, rfl⟩
  rw [hg5] at HX51
  have HG5 := Lib.hid hg5
  have HSF := Lib.hid (show (Try.prog.info? 83).map (·.size) = some FC.size by rw [sF]; kernel_rfl)
  have HFS := Lib.hid sF
  clear hr hc y0 hn hrf hlf hnf hrb hd y1 hnb hk hf hbE hkv0 hbv0 huf hbl hb3 LF sF hFC hf1 hkl hk3 x5 b2 hW1 hg5
  go_enter Try.func22, Try.ntmps22
  go_upto_region 1 with (fail)
  rw [HW1.out, HG5.out]
  clear HW1
  go_wp2_with fail
  refine (fawake_any W1).mono ?_
  rintro e W2 ⟨rfl, hb2⟩
  have HX5 := Lib.hid (keepH hb2 HX51.out)
  have HB2 := Lib.hid (HB1.out.trans (hb2.mono HB1.out.size))
  have HKV := Lib.hid (HKW.out.below HB2.out)
  have HBV := Lib.hid (HBWW.out.below HB2.out)
  have HLF := Lib.hid (fun w' (hb : Below W2.heap.size W2 w') => HLW.out w' (HB2.out.trans (hb.mono HB2.out.size)))
  clear hb2 HX51 HB1 HKW HBWW HLW
  go_upto_region 3 with (fail)
  refine wp_region_mono (w0 := _) 6 [some 17, some 18, some 19, some 20, some 21, some 22] (by kernel_rfl) (by kernel_rfl) (by kernel_rfl) (by kernel_rfl) (of_decide_eq_true (by kernel_rfl)) (by kernel_rfl) (pdFBk kv0 bv0 k3 b3 FC f1) ?_ ?_ ?_
  · exact pdFBk_mono kv0 bv0 k3 b3 FC f1
  · intro i hi o w1 b9 ho hbel hv hstood hsize K hK
    have hc : i = 0 ∨ i = 1 ∨ i = 2 ∨ i = 3 ∨ i = 4 ∨ i = 5 := by omega
    rcases hc with rfl | rfl | rfl | rfl | rfl | rfl
    · obtain rfl : (⟨some 17, .move (Operand.tmp 0), _, _, _, _⟩ : Oper) = o := Option.some.inj ho
      refine ask_plain rfl ?_
      have e : b9.eval (.tmp 0) = kv0 := (hstood 0 (by kernel_rfl)).trans rfl
      exact wp_val _ rfl (hK _ _ e (Below.refl _ _))
    · obtain rfl : (⟨some 18, .call { callee := (Callee.value (Operand.func 59)), args := #[(Operand.tmp 17)], argTypes := #[35] }, _, _, _, _⟩ : Oper) = o := Option.some.inj ho
      refine ask_plain rfl ?_
      have e1 : b9.eval (.tmp 17) = kv0 := hv 0 17 (by kernel_rfl) (by kernel_rfl) (of_decide_eq_true (by kernel_rfl))
      refine wp_call_fn 59 #[.tmp 17] #[35] rfl Try.f59 _ Try.func59 (by kernel_rfl) rfl #[kv0] (by simp [e1]) ((cut59_any k kv0 w1 (HKV.out.below hbel)).mono ?_)
      rintro e w2 ⟨u2, rfl, hE2, rfl⟩
      exact ⟨_, rfl, hK _ _ (by rw [← HK3.out]; exact hE2 _ (HKV.out.below hbel)) (Below.refl _ _)⟩
    · obtain rfl : (⟨some 19, .load 83 (Operand.tmp 4), _, _, _, _⟩ : Oper) = o := Option.some.inj ho
      refine ask_plain rfl ?_
      have e1 : b9.eval (.tmp 4) = .pointer (some ⟨g5, 0, none⟩) := (hstood 4 (by kernel_rfl)).trans rfl
      exact wp_load_cells 83 (.tmp 4) rfl ⟨g5, 0, none⟩ e1 FC _ rfl (fun j v hj => by rw [add_zero_off, Joins.cell_of_block (keepH hbel HX5.out)]; exact hj) Try.underlying83 HSF.out (hK _ _ rfl (Below.refl _ _))
    · obtain rfl : (⟨some 20, .call { callee := (Callee.value (Operand.func 60)), args := #[(Operand.tmp 19)], argTypes := #[83] }, _, _, _, _⟩ : Oper) = o := Option.some.inj ho
      refine ask_plain rfl ?_
      have e1 : b9.eval (.tmp 19) = .agg FC := hv 2 19 (by kernel_rfl) (by kernel_rfl) (of_decide_eq_true (by kernel_rfl))
      refine wp_call_fn 60 #[.tmp 19] #[83] rfl Try.f60 _ Try.func60 (by kernel_rfl) rfl #[.agg FC] (by simp [e1]) ((HLF.out w1 hbel).mono ?_)
      rintro e w2 ⟨u2, rfl, hE2, hb2⟩
      exact ⟨_, rfl, hK _ _ ⟨u2, rfl, hE2⟩ hb2⟩
    · obtain rfl : (⟨some 21, .move (Operand.tmp 2), _, _, _, _⟩ : Oper) = o := Option.some.inj ho
      refine ask_plain rfl ?_
      have e : b9.eval (.tmp 2) = bv0 := (hstood 2 (by kernel_rfl)).trans rfl
      exact wp_val _ rfl (hK _ _ e (Below.refl _ _))
    · obtain rfl : (⟨some 22, .call { callee := (Callee.value (Operand.func 59)), args := #[(Operand.tmp 21)], argTypes := #[35] }, _, _, _, _⟩ : Oper) = o := Option.some.inj ho
      refine ask_plain rfl ?_
      have e1 : b9.eval (.tmp 21) = bv0 := hv 4 21 (by kernel_rfl) (by kernel_rfl) (of_decide_eq_true (by kernel_rfl))
      refine wp_call_fn 59 #[.tmp 21] #[35] rfl Try.f59 _ Try.func59 (by kernel_rfl) rfl #[bv0] (by simp [e1]) ((cut59_any b bv0 w1 (HBV.out.below hbel)).mono ?_)
      rintro e w2 ⟨u2, rfl, hE2, rfl⟩
      exact ⟨_, rfl, hK _ _ (by rw [← HBB3.out]; exact hE2 _ (HBV.out.below hbel)) (Below.refl _ _)⟩
  · intro vs w6 hp hb6
    have hk6 : EqN w6 k3 (vs 1) := hp 1 (by decide)
    have hb6' : EqN w6 b3 (vs 5) := hp 5 (by decide)
    obtain ⟨uf2, e3, hf6⟩ : ∃ u, vs 3 = frV f1 u ∧ EqN w6 f1.body u := hp 3 (by decide)
    change wpList _ _ _ [_, _, _] _ _
    simp only [putD, Act.put, List.setIfInBounds_toArray, List.set_cons_zero, List.set_cons_succ, e3, frV_C]
    obtain ⟨kv, hkv⟩ : ∃ v, vs 1 = v := ⟨_, rfl⟩
    obtain ⟨bv, hbv⟩ : ∃ v, vs 5 = v := ⟨_, rfl⟩
    rw [hkv] at hk6 ⊢
    rw [hbv] at hb6' ⊢
    generalize vs 0 = y0, vs 2 = y2, vs 4 = y4
    have x5 := keepH hb6 HX5.out
    have b6 := HB2.out.trans (hb6.mono HB2.out.size)
    have HF1 := Lib.hid (frC_one f1 hf6)
    have hvf := frV_C f1 uf2
    have sF := frC_size f1 uf2
    obtain ⟨F2, hF2⟩ : ∃ F, frC f1 uf2 = F := ⟨_, rfl⟩
    rw [hF2] at HF1 hvf sF ⊢
    have X5 := Lib.hid x5
    have HSF2 := Lib.hid (show (Try.prog.info? 83).map (·.size) = some F2.size by rw [sF]; kernel_rfl)
    have HFF := Lib.hid (show FC.size = F2.size by rw [sF, HFS.out])
    have HK6 := hk6.bes ((Bes.refl g5 w6).setRow F2) (no_u8 x5 n5.out)
    have HBB6 := hb6'.bes ((Bes.refl g5 w6).setRow F2) (no_u8 x5 n5.out)
    have HF6 := hf6.bes ((Bes.refl g5 w6).setRow F2) (no_u8 x5 n5.out)
    have y5h : (w6.setRow g5 F2).heap[g5]? = some (.cells F2 83 (0, 0)) := setRow_heap w6 g5 _ F2 83 _ x5
    have b7 : Below w.heap.size w (w6.setRow g5 F2) := below_setRow _ _ b6 (Nat.le_of_eq HG5.out)
    clear hp hb6 hk6 hf6 hb6' hbv hkv e3 x5 b6 hF2 sF HX5 HB2 HLF
    go_upto_region 4 with (first | ((with_reducible show wpList _ _ _ (⟨none, .store 83 (.tmp 4) (.tmp 20), _, _, _, _⟩ :: _) _ _); refine wpList_store_row rfl 83 (.tmp 4) (.tmp 20) rfl g5 F2 rfl rfl 83 _ X5.out HSF2.out HFF.out HF1.out ?_) | fail)
    obtain ⟨W7, hW7⟩ : ∃ W, w6.setRow g5 F2 = W := ⟨_, rfl⟩
    rw [hW7] at HK6 HF6 HBB6 y5h b7 ⊢
    have Y5 := Lib.hid y5h
    have B7 := Lib.hid b7
    have K7 := Lib.hid HK6
    have BB7 := Lib.hid HBB6
    have F7 := Lib.hid HF6
    have HVF := Lib.hid hvf
    have S1 := fSeal_any k3 kv f1 uf2 W7 HK6 HKL.out HF6
    rw [hvf] at S1
    have HS1 := Lib.hid S1
    clear HK6 HF6 HBB6 y5h b7 hW7 hvf S1 X5
    go_wp2_with (first | ((with_reducible show wpList _ _ _ (⟨some 25, .load 83 (.tmp 4), _, _, _, _⟩ :: _) _ _); refine wpList_load_cells rfl 83 (.tmp 4) rfl ⟨g5, 0, none⟩ rfl F2 _ rfl (fun j v hj => by rw [add_zero_off, Joins.cell_of_block Y5.out]; exact hj) Try.underlying83 HSF2.out ?_) | fail)
    refine HS1.out.mono ?_
    rintro e w8 ⟨v7, rfl, hown, hb8⟩
    have Y58 := Lib.hid (keepH hb8 Y5.out)
    have B8 := Lib.hid (B7.out.trans (hb8.mono B7.out.size))
    have K8 := Lib.hid (K7.out.below hb8)
    have BB8 := Lib.hid (BB7.out.below hb8)
    have F8 := Lib.hid (F7.out.below hb8)
    have U8 := Lib.hid hown.eqn
    clear hown hb8 HS1 Y5 B7 K7 BB7 F7
    go_upto_if 30 with (fail)
    --@a
    go_cut [8] from 29 to 44 (fun v wx => v = .int .i64 (okE f1) ∧ Below w8.heap.size w8 wx)
    case first =>
      by_cases hok : okF f1 = true
      · have hoe : okE f1 = 0 := by unfold okE; rw [if_pos hok]
        have hc0 : (okE f1 == 0) = true := by rw [hoe]; rfl
        have OP := fOpen_any k3 kv (sealB k3 f1) v7 w8 K8.out HKL.out U8.out (by have := sealB_len k3 f1; omega)
        rw [op_seal k3 f1 hok] at OP
        have HOP := Lib.hid OP
        clear OP hoe hok
        go_wp2_with fail
        refine HOP.out.mono ?_
        rintro e w9 ⟨u9, rfl, hE9, hb9⟩
        have hE9 : EqN w9 f1.body u9 := hE9
        have hf9 := F8.out.below hb9
        have y9 := keepH hb9 Y58.out
        rw [frV_C]
        have sF9 := frC_size f1 u9
        have hvf9 := frV_C f1 u9
        have HF9 := Lib.hid (frC_one f1 hE9)
        obtain ⟨F9, hF9⟩ : ∃ F, frC f1 u9 = F := ⟨_, rfl⟩
        rw [hF9] at sF9 hvf9 HF9 ⊢
        have HSF9 := Lib.hid (show (Try.prog.info? 83).map (·.size) = some F9.size by rw [sF9]; kernel_rfl)
        have HZF9 := Lib.hid (show zeroC.size = F9.size by rw [sF9]; rfl)
        have hb10 : Below w9.heap.size w9 ((w9.alloc (.cells zeroC 83)).setRow w9.heap.size F9) := below_setRow _ _ ((Below.refl _ _).alloc (Nat.le_refl _) _) (Nat.le_refl _)
        have RS := rfsame_any f1 f1 uf2 u9 _ (hf9.below hb10) (hE9.below hb10)
        rw [HVF.out, hvf9, (sameF_iff f1 f1).2 rfl] at RS
        have HRS := Lib.hid RS
        have Y10 := Lib.hid (keepH hb10 y9)
        have HG10 := Lib.hid (setRow_heap (w9.alloc (.cells zeroC 83)) w9.heap.size _ F9 83 _ (heap_new _ _ _ rfl))
        have B10 := Lib.hid (hb9.trans (hb10.mono hb9.size))
        have hz : zeroC = #[.int .i64 0, .int .i64 0, .int .u64 0, .int .u64 0, .int .i64 0, .slice none 0 0, .int .i64 0, .int .u64 0] := rfl
        have HZC := Lib.hid hz
        clear hE9 hf9 y9 sF9 hvf9 hF9 hb9 hb10 RS hz HOP
        go_wp2_with (first | ((with_reducible show wpList _ _ _ (⟨none, .store 83 (.tmp 9) (.tmp 35), _, _, _, _⟩ :: _) _ _); rw [← HZC.out]; refine wpList_store_row rfl 83 (.tmp 9) (.tmp 35) rfl w9.heap.size F9 rfl rfl 83 _ (heap_new _ _ _ rfl) HSF9.out HZF9.out HF9.out ?_) | ((with_reducible show wpList _ _ _ (⟨some 40, .load 83 (.tmp 4), _, _, _, _⟩ :: _) _ _); refine Go.BigFrame.wpList_want (by kernel_rfl) fun K hK => wp_load_cells 83 (.tmp 4) rfl ⟨g5, 0, none⟩ rfl F2 _ rfl (fun j v hj => by rw [add_zero_off, Joins.cell_of_block Y10.out]; exact hj) Try.underlying83 HSF2.out (hK _ _ ?_); simp only [Act.put, List.setIfInBounds_toArray, List.set_cons_zero, List.set_cons_succ]; clear hK) | ((with_reducible show wpList _ _ _ (⟨some 41, .load 83 (.tmp 9), _, _, _, _⟩ :: _) _ _); refine Go.BigFrame.wpList_want (by kernel_rfl) fun K hK => wp_load_cells 83 (.tmp 9) rfl ⟨w9.heap.size, 0, none⟩ rfl F9 _ rfl (fun j v hj => by rw [add_zero_off, Joins.cell_of_block HG10.out]; exact hj) Try.underlying83 HSF9.out (hK _ _ ?_); simp only [Act.put, List.setIfInBounds_toArray, List.set_cons_zero, List.set_cons_succ]; clear hK) | fail)
        refine HRS.out.mono ?_
        rintro e w11 ⟨rfl, hb11⟩
        have B11 := Lib.hid (B10.out.trans (hb11.mono B10.out.size))
        clear hb11 HRS
        --@b
        go_wp2
        --@c
        go_meet
        case rel => exact ⟨rfl, B11.out⟩
      · have hoe : okE f1 = 180 := by unfold okE; rw [if_neg hok]
        have hc0 : (okE f1 == 0) = false := by rw [hoe]; rfl
        clear hok hoe
        go_wp2
        go_meet
        case rel => exact ⟨rfl, Below.refl _ _⟩
    case rest =>
      obtain ⟨rfl, hbx⟩ := hcut
      have KX := K8.out.below hbx
      have BX := BB8.out.below hbx
      have HKX := Lib.hid KX
      have HBX := Lib.hid BX
      have B9 := Lib.hid (B8.out.trans (hbx.mono B8.out.size))
      have OP := fOpen_any k3 kv b3 bv wc KX HKL.out BX HBL.out
      --@d
      rcases op_cases k3 b3 with ⟨f3, h3⟩ | ⟨e3, h3, hne⟩
      · obtain ⟨hok3, hsb3⟩ := seal_op k3 b3 f3 h3
        rw [h3] at OP
        have HOP := Lib.hid OP
        have HOK := Lib.hid hok3
        have HSB := Lib.hid hsb3
        clear OP KX BX hbx h3 hok3 hsb3 K8 BB8 Y58 F8 U8
        go_wp2_with fail
        refine HOP.out.mono ?_
        rintro e w9 ⟨u9, rfl, hE9, hb9⟩
        have hE9 : EqN w9 f3.body u9 := hE9
        rw [frV_C]
        have sF9 := frC_size f3 u9
        have hvf9 := frV_C f3 u9
        have HF9 := Lib.hid (frC_one f3 hE9)
        obtain ⟨F9, hF9⟩ : ∃ F, frC f3 u9 = F := ⟨_, rfl⟩
        rw [hF9] at sF9 hvf9 HF9 ⊢
        have HSF9 := Lib.hid (show (Try.prog.info? 83).map (·.size) = some F9.size by rw [sF9]; kernel_rfl)
        have HZF9 := Lib.hid (show zeroC.size = F9.size by rw [sF9]; rfl)
        have hb10 : Below w9.heap.size w9 ((w9.alloc (.cells zeroC 83)).setRow w9.heap.size F9) := below_setRow _ _ ((Below.refl _ _).alloc (Nat.le_refl _) _) (Nat.le_refl _)
        have S3 := fSeal_any k3 kv f3 u9 _ ((HKX.out.below hb9).below hb10) HKL.out (hE9.below hb10)
        rw [hvf9, HSB.out, show okE f3 = 0 by unfold okE; rw [if_pos HOK.out]] at S3
        have HS3 := Lib.hid S3
        have HG10 := Lib.hid (setRow_heap (w9.alloc (.cells zeroC 83)) w9.heap.size _ F9 83 _ (heap_new _ _ _ rfl))
        have b10 := B9.out.trans ((hb9.trans (hb10.mono hb9.size)).mono B9.out.size)
        have B10 := Lib.hid b10
        have HB10 := Lib.hid ((HBX.out.below hb9).below hb10)
        have hz : zeroC = #[.int .i64 0, .int .i64 0, .int .u64 0, .int .u64 0, .int .i64 0, .slice none 0 0, .int .i64 0, .int .u64 0] := rfl
        have HZC := Lib.hid hz
        clear hE9 sF9 hvf9 hF9 hb9 hb10 b10 S3 hz HOP
        go_wp2_with (first | ((with_reducible show wpList _ _ _ (⟨none, .store 83 (.tmp 11) (.tmp 49), _, _, _, _⟩ :: _) _ _); rw [← HZC.out]; refine wpList_store_row rfl 83 (.tmp 11) (.tmp 49) rfl w9.heap.size F9 rfl rfl 83 _ (heap_new _ _ _ rfl) HSF9.out HZF9.out HF9.out ?_) | ((with_reducible show wpList _ _ _ (⟨some 58, .load 83 (.tmp 11), _, _, _, _⟩ :: _) _ _); refine wpList_load_cells rfl 83 (.tmp 11) rfl ⟨w9.heap.size, 0, none⟩ rfl F9 _ rfl (fun j v hj => by rw [add_zero_off, Joins.cell_of_block HG10.out]; exact hj) Try.underlying83 HSF9.out ?_) | fail)
        refine HS3.out.mono ?_
        rintro e w12 ⟨v13, rfl, ho13, hb12⟩
        have B12 := Lib.hid (B10.out.trans (hb12.mono B10.out.size))
        have hcv1 := conv_EqN ho13.eqn
        have hcv2 := conv_EqN (HB10.out.below hb12)
        obtain ⟨SB, hSB⟩ : ∃ s, strV b3 = s := ⟨_, rfl⟩
        rw [hSB] at hcv1 hcv2
        obtain ⟨A13, n13, c13, e13⟩ := ho13.eqn.form
        subst e13
        obtain ⟨A14, n14, c14, e14⟩ := HBX.out.form
        subst e14
        clear ho13 hb12 HS3 HB10 hSB
        go_wp2
        go_ret
        exact ⟨rfl, B12.out⟩
      · rw [h3] at OP
        have HOP := Lib.hid OP
        have hne1 : (e3 != 0) = true := by simp; exact hne
        clear OP KX BX hbx h3 hne K8 BB8 Y58 F8 U8
        go_wp2_with fail
        refine HOP.out.mono ?_
        rintro e w10 ⟨u10, rfl, hE10, hb10⟩
        have hE10 : EqN w10 [] u10 := hE10
        obtain ⟨A10, n10, c10, hu10⟩ := hE10.form
        subst hu10
        have b10 := B9.out.trans (hb10.mono B9.out.size)
        have RS := rfsame_any zeroFr zeroFr (.slice A10 n10 c10) (.slice none 0 0) _ (hE10.alloc (.cells #[.int .i64 0, .int .i64 0, .int .u64 0, .int .u64 0, .int .i64 0, .slice A10 n10 c10, .int .i64 0, .int .u64 0] 83)) (EqN.nil _)
        rw [zeroFr_v, zeroFr_v, (sameF_iff zeroFr zeroFr).2 rfl] at RS
        have HRS := Lib.hid RS
        have HB10 := Lib.hid (b10.trans ((below_alloc1 w10 (.cells #[.int .i64 0, .int .i64 0, .int .u64 0, .int .u64 0, .int .i64 0, .slice A10 n10 c10, .int .i64 0, .int .u64 0] 83)).mono b10.size))
        rw [zeroFr_v]
        clear hE10 hb10 b10 RS HOP
        go_wp2_with fail
        refine HRS.out.mono ?_
        rintro e w11 ⟨rfl, hb11⟩
        have HB11 := Lib.hid (HB10.out.trans (hb11.mono HB10.out.size))
        clear hb11 HRS
        go_wp2
        go_ret
        exact ⟨rfl, HB11.out⟩
end Go.Proofs.Ytjaakhjfpigdfaa
