import Derived.Test.YtjaakhjfpigdfaaGD
import Derived.Test.YtjaakhjfpigdfaaHA
/-! FrameSealed. -/
namespace Go.Proofs.Ytjaakhjfpigdfaa
open Go.RowKit
set_option linter.unusedVariables false
set_option linter.unusedSimpArgs false
/-- A frame's cells. -/
def frC (f : Fr) (u : Value) : Array Value := #[.int .i64 f.fr, .int .i64 f.ep, .int .u64 (f.me.toNat : Int), .int .u64 (f.you.toNat : Int), .int .i64 f.n, u, .int .i64 f.all, .int .u64 (f.more.toNat : Int)]
theorem frV_C (f : Fr) (u : Value) : frV f u = .agg (frC f u) := rfl
theorem frC_size (f : Fr) (u : Value) : (frC f u).size = 8 := rfl
theorem frC_one {w : World} {p : By} (f : Fr) {u : Value} (h : EqN w p u) : (frC f u).all (·.oneCell') = true := by
  obtain ⟨A, n, c, rfl⟩ := h.form
  exact fr_cells_one f A n c
theorem frC_u8 {w : World} {p : By} (f : Fr) {u : Value} (h : EqN w p u) : ∀ (j : Nat) (x : Int), (frC f u)[j]? ≠ some (.int .u8 x) := by
  obtain ⟨A, n, c, rfl⟩ := h.form
  intro j x hj
  rcases j with _ | _ | _ | _ | _ | _ | _ | _ | j <;> simp [frC] at hj
set_option maxRecDepth 100000 in
set_option maxHeartbeats 8000000 in
theorem frameSealed_true (k : By) (A0 : Option Addr) (c0 : Nat) (b : By) (B0 : Option Addr) (d0 : Nat) (w : World) (hr : RdB w A0 k) (hc : k.length ≤ c0) (y0 : k.length * 1 ≤ 140737488351232) (hn : A0 = none → c0 = 0) (hrb : RdB w B0 b) (hd : b.length ≤ d0) (y1 : b.length * 1 ≤ 140737488351232) (hnb : B0 = none → d0 = 0) :
    Calls Try.prog 20 #[.slice A0 k.length c0, .slice B0 b.length d0] w fun e w' => e = .returned (.bool true) ∧ Below w.heap.size w w' := by
  have hk : EqN w k (.slice A0 k.length c0) := ⟨A0, c0, rfl, hc, hr, hn⟩
  have hbE : EqN w b (.slice B0 b.length d0) := ⟨B0, d0, rfl, hd, hrb, hnb⟩
  obtain ⟨kv0, hkv0⟩ : ∃ v, Value.slice A0 k.length c0 = v := ⟨_, rfl⟩
  obtain ⟨bv0, hbv0⟩ : ∃ v, Value.slice B0 b.length d0 = v := ⟨_, rfl⟩
  rw [hkv0] at hk ⊢
  rw [hbv0] at hbE ⊢
  have hkl : (k.take 3000).length ≤ 1000000 := by rw [List.length_take]; omega
  have hbl : (b.take 3000).length ≤ 3000 := by rw [List.length_take]; omega
  have CK := Lib.hid (cut59_any k kv0 w hk)
  have CB := Lib.hid (cut59_any b bv0 w hbE)
  obtain ⟨k3, hk3⟩ : ∃ q, k.take 3000 = q := ⟨_, rfl⟩
  obtain ⟨b3, hb3⟩ : ∃ q, b.take 3000 = q := ⟨_, rfl⟩
  rw [hk3] at CK hkl
  rw [hb3] at CB hbl
  have HKL := Lib.hid hkl
  have HBL3 := Lib.hid hbl
  have HK0 := Lib.hid hk
  have HB0 := Lib.hid hbE
  have hz32 := zeros32
  have hzs32 : (V8 (List.replicate 32 0)).size = 32 := by rw [V8_size]; rfl
  obtain ⟨Zr, hZr⟩ : ∃ Z, V8 (List.replicate 32 0) = Z := ⟨_, rfl⟩
  rw [hZr] at hz32 hzs32
  have HZ32 := Lib.hid hz32
  have HZS := Lib.hid hzs32
  clear hr hc y0 hn hrb hd y1 hnb hk hbE hkv0 hbv0 hkl hbl hk3 hb3 hz32 hzs32 hZr
  go_enter Try.func20, Try.ntmps20
  go_wp2_with fail
  refine CK.out.mono ?_
  rintro e w9 ⟨kv, rfl, hKK, rfl⟩
  have HKW := Lib.hid (hKK w HK0.out)
  clear hKK CK
  go_wp2_with fail
  refine CB.out.mono ?_
  rintro e w9 ⟨bv, rfl, hBB, rfl⟩
  have HBWW := Lib.hid (hBB w HB0.out)
  clear hBB CB HK0 HB0
  obtain ⟨B, cB, hbv, hcB, hrB, hnB⟩ := HBWW.out
  subst hbv
  obtain ⟨n, hn⟩ : ∃ n, b3.length = n := ⟨_, rfl⟩
  have HN := Lib.hid hn
  rw [hn] at hcB HBWW ⊢
  have hn3 : n ≤ 3000 := by have := HBL3.out; omega
  have HRB := Lib.hid hrB
  clear hrB hnB hn
  --@s
  go_upto_if 18 with (fail)
  go_cut [5] from 18 to 23 (fun v wx => ∃ x : BitVec 64, v = .int .u64 (x.toNat : Int) ∧ Below w.heap.size w wx)
  case first =>
    by_cases h1 : 1 < n
    · obtain ⟨ad, rfl, hc1⟩ := HRB.out.at' 1 (by rw [HN.out]; exact h1)
      obtain ⟨x0, hx0⟩ : ∃ x, b3[1]'(by rw [HN.out]; exact h1) = x := ⟨_, rfl⟩
      rw [hx0] at hc1
      have hcell : w.cell? ⟨ad.block, ad.off + 1, none⟩ = some (.int .u8 (x0.toNat : Int)) := by simpa [Addr.add] using hc1
      have h1i : (1 : Int) < (n : Int) := by omega
      have hd1 : decide ((1 : Int) < (n : Int)) = true := by simp; omega
      have x18 := x0.isLt
      clear hc1 hx0
      go_wp2
      go_meet
      case rel => exact ⟨BitVec.ofNat 64 x0.toNat, by rw [of64], Below.refl _ _⟩
    · have hd1 : decide ((1 : Int) < (n : Int)) = false := by simp; omega
      go_wp2
      go_meet
      case rel => exact ⟨0#64, rfl, Below.refl _ _⟩
  case rest =>
    obtain ⟨x, rfl, hbx⟩ := hcut
    obtain ⟨bv, hbv⟩ : ∃ v, Value.slice B n cB = v := ⟨_, rfl⟩
    rw [hbv] at HBWW ⊢
    have HKC := Lib.hid (HKW.out.below hbx)
    have HBC := Lib.hid (HBWW.out.below hbx)
    have HBX := Lib.hid hbx
    have DE := Lib.hid (rderive_any k3 kv frameS x wc HKC.out HKL.out (by decide))
    clear hbx hbv HKW HBWW HRB HN
    --@t
    go_wp2_with fail
    refine DE.out.mono ?_
    rintro e w3 ⟨rfl, hb3⟩
    have hdl : (macL k3 (purB frameS x)).length = 32 := macL_len _ _
    obtain ⟨D, hD⟩ : ∃ D, macL k3 (purB frameS x) = D := ⟨_, rfl⟩
    rw [hD] at hdl ⊢
    have HDL := Lib.hid hdl
    have HSD := Lib.hid (show (Try.prog.info? 25).map (·.size) = some (V8 D).size by rw [V8_size, hdl]; kernel_rfl)
    have HZD := Lib.hid (show Zr.size = (V8 D).size by rw [V8_size, hdl, HZS.out])
    have HB3 := Lib.hid hb3
    clear hb3 DE hD hdl
    go_upto_region 6 with (first | ((with_reducible show wpList _ _ _ (⟨none, .store 25 (.tmp 6) (.tmp 25), _, _, _, _⟩ :: _) _ _); rw [← HZ32.out]; refine wpList_store_row rfl 25 (.tmp 6) (.tmp 25) rfl w3.heap.size (V8 D) rfl rfl 25 _ (heap_new _ _ _ rfl) HSD.out HZD.out (V8_one _) ?_) | fail)
    --@u
    generalize hW4 : (World.setRow _ _ _) = W4
    obtain ⟨g5, hg5⟩ : ∃ g, w3.heap.size = g := ⟨_, rfl⟩
    have b4 : Below w3.heap.size w3 W4 := by rw [← hW4]; exact below_setRow _ _ ((Below.refl _ _).alloc (Nat.le_refl _) _) (Nat.le_refl _)
    have hzv := EqN.arr (show W4.heap[g5]? = some (.cells (V8 D) 25 (0, 0)) by rw [← hW4, ← hg5]; exact setRow_heap _ _ _ _ _ _ (heap_new _ _ _ rfl)) 32 HDL.out (by decide)
    have hB4 := HB3.out.trans (b4.mono HB3.out.size)
    have S := Lib.hid (rseal_any D _ b3 bv W4 hzv (by rw [HDL.out]; decide) (HBC.out.below hB4) (by have := HBL3.out; omega))
    have HB4 := Lib.hid (HBX.out.trans (hB4.mono HBX.out.size))
    have HK4 := Lib.hid (HKC.out.below hB4)
    rw [hg5]
    clear hW4 hg5 b4 HB3 hzv hB4 HKC HBC HBX
    go_wp2_with fail
    --@v
    refine S.out.mono ?_
    rintro e w7 ⟨v7, rfl, hown, hb7⟩
    have HBWW := Lib.hid (EqN.own hown)
    have HKW := Lib.hid (HK4.out.below hb7)
    have HB1 := Lib.hid (HB4.out.trans (hb7.mono HB4.out.size))
    have HBL := Lib.hid (show (b3 ++ macL D b3).length ≤ 1000000 by rw [List.length_append, macL_len]; have := HBL3.out; omega)
    obtain ⟨s3, hs3⟩ : ∃ s, b3 ++ macL D b3 = s := ⟨_, rfl⟩
    rw [hs3] at HBWW HBL
    clear hown hb7 HK4 HB4 S hs3
    have OP1 := fOpen_any k3 kv s3 v7 w7 HKW.out HKL.out HBWW.out HBL.out
    obtain ⟨F, hF⟩ : ∃ q, (opF k3 s3).1 = q := ⟨_, rfl⟩
    obtain ⟨E, hE⟩ : ∃ q, (opF k3 s3).2 = q := ⟨_, rfl⟩
    rw [hF, hE] at OP1
    have HF := Lib.hid hF
    have HE := Lib.hid hE
    have HOP1 := Lib.hid OP1
    have hz : zeroC = #[.int .i64 0, .int .i64 0, .int .u64 0, .int .u64 0, .int .i64 0, .slice none 0 0, .int .i64 0, .int .u64 0] := rfl
    have HZC := Lib.hid hz
    have HEE := Lib.hid (show (E == E) = true by simp)
    clear OP1 hF hE hz
    go_wp2_with fail
    refine HOP1.out.mono ?_
    rintro e w2 ⟨u2, rfl, hE2, hb2⟩
    have hone2 := frC_one F hE2
    have hs2 := frC_size F u2
    have hv2 := frV_C F u2
    rw [hv2]
    obtain ⟨FA, hFA⟩ : ∃ F9, frC F u2 = F9 := ⟨_, rfl⟩
    rw [hFA] at hone2 hs2 hv2 ⊢
    have HVA := Lib.hid hv2
    have HA1 := Lib.hid hone2
    have HSA := Lib.hid (show (Try.prog.info? 83).map (·.size) = some FA.size by rw [hs2]; kernel_rfl)
    have HZA := Lib.hid (show zeroC.size = FA.size by rw [hs2]; rfl)
    have b3' : Below w2.heap.size w2 ((w2.alloc (.cells zeroC 83)).setRow w2.heap.size FA) := below_setRow _ _ ((Below.refl _ _).alloc (Nat.le_refl _) _) (Nat.le_refl _)
    have x3 : ((w2.alloc (.cells zeroC 83)).setRow w2.heap.size FA).heap[w2.heap.size]? = some (.cells FA 83 (0, 0)) := setRow_heap (w2.alloc (.cells zeroC 83)) w2.heap.size _ FA 83 _ (heap_new _ _ _ rfl)
    obtain ⟨W3, hW3⟩ : ∃ W, (w2.alloc (.cells zeroC 83)).setRow w2.heap.size FA = W := ⟨_, rfl⟩
    rw [hW3] at b3' x3
    have HW3 := Lib.hid hW3
    have X3 := Lib.hid x3
    have b13 := hb2.trans (b3'.mono hb2.size)
    have HB3 := Lib.hid (HB1.out.trans (b13.mono HB1.out.size))
    have HE3 := Lib.hid (hE2.below b3')
    have OP2 := rOpen_any k3 kv s3 v7 W3 (HKW.out.below b13) HKL.out (HBWW.out.below b13) HBL.out
    rw [HF.out, HE.out] at OP2
    have HOP2 := Lib.hid OP2
    clear hE2 hb2 hone2 hs2 hv2 hFA b3' x3 hW3 b13 OP2 HOP1 HKW HBWW HB1
    --@a
    go_wp2_with (first | ((with_reducible show wpList _ _ _ (⟨none, .store 83 (.tmp 8) (.tmp 33), _, _, _, _⟩ :: _) _ _); rw [← HZC.out]; refine wpList_store_row rfl 83 (.tmp 8) (.tmp 33) rfl w2.heap.size FA rfl rfl 83 _ (heap_new _ _ _ rfl) HSA.out HZA.out HA1.out ?_) | fail)
    rw [HW3.out]
    --@b
    refine HOP2.out.mono ?_
    rintro e w4 ⟨u4, rfl, hE4, hb4⟩
    have hone4 := frC_one F hE4
    have hs4 := frC_size F u4
    have hv4 := frV_C F u4
    rw [hv4]
    obtain ⟨FB, hFB⟩ : ∃ F9, frC F u4 = F9 := ⟨_, rfl⟩
    rw [hFB] at hone4 hs4 hv4 ⊢
    have HBB1 := Lib.hid hone4
    have HSB := Lib.hid (show (Try.prog.info? 83).map (·.size) = some FB.size by rw [hs4]; kernel_rfl)
    have HZB := Lib.hid (show zeroC.size = FB.size by rw [hs4]; rfl)
    have b5 : Below w4.heap.size w4 ((w4.alloc (.cells zeroC 83)).setRow w4.heap.size FB) := below_setRow _ _ ((Below.refl _ _).alloc (Nat.le_refl _) _) (Nat.le_refl _)
    have X5 := Lib.hid (setRow_heap (w4.alloc (.cells zeroC 83)) w4.heap.size _ FB 83 _ (heap_new _ _ _ rfl))
    have b35 := hb4.trans (b5.mono hb4.size)
    have X35 := Lib.hid (keepH b35 X3.out)
    have HB5 := Lib.hid (HB3.out.trans (b35.mono HB3.out.size))
    have RS := rfsame_any F F u2 u4 _ (HE3.out.below b35) (hE4.below b5)
    rw [HVA.out, hv4, (sameF_iff F F).2 rfl] at RS
    have HRS := Lib.hid RS
    have hEE := HEE.out
    clear hE4 hb4 hone4 hs4 hv4 hFB b5 b35 RS HOP2 HB3 HE3 X3
    go_wp2_with (first | ((with_reducible show wpList _ _ _ (⟨none, .store 83 (.tmp 10) (.tmp 39), _, _, _, _⟩ :: _) _ _); rw [← HZC.out]; refine wpList_store_row rfl 83 (.tmp 10) (.tmp 39) rfl w4.heap.size FB rfl rfl 83 _ (heap_new _ _ _ rfl) HSB.out HZB.out HBB1.out ?_) | ((with_reducible show wpList _ _ _ (⟨some 41, .load 83 (.tmp 8), _, _, _, _⟩ :: _) _ _); refine wpList_load_cells rfl 83 (.tmp 8) rfl ⟨w2.heap.size, 0, none⟩ rfl FA _ rfl (fun j v hj => by rw [add_zero_off, Joins.cell_of_block X35.out]; exact hj) Try.underlying83 HSA.out ?_) | ((with_reducible show wpList _ _ _ (⟨some 42, .load 83 (.tmp 10), _, _, _, _⟩ :: _) _ _); refine wpList_load_cells rfl 83 (.tmp 10) rfl ⟨w4.heap.size, 0, none⟩ rfl FB _ rfl (fun j v hj => by rw [add_zero_off, Joins.cell_of_block X5.out]; exact hj) Try.underlying83 HSB.out ?_) | fail)
    --@c
    refine HRS.out.mono ?_
    rintro e w6 ⟨rfl, hb6⟩
    have HB6 := Lib.hid (HB5.out.trans (hb6.mono HB5.out.size))
    clear hb6 HRS HB5
    go_wp2_with fail
    --@d
    refine (fawake_any _).mono ?_
    rintro e w7 ⟨rfl, hb7⟩
    have HB7 := Lib.hid (HB6.out.trans (hb7.mono HB6.out.size))
    clear hb7 HB6
    go_wp2
    go_ret
    exact ⟨rfl, HB7.out⟩
end Go.Proofs.Ytjaakhjfpigdfaa
