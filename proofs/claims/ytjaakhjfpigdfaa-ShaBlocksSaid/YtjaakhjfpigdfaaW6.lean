import Derived.Test.YtjaakhjfpigdfaaX5
import Derived.Deep.CutRange
import Derived.Test.YtjaakhjfpigdfaaW2
/-! ShaBlocks. -/
namespace Go.Proofs.Ytjaakhjfpigdfaa
open Go.RowKit
set_option linter.unusedVariables false
set_option linter.unusedSimpArgs false
def pdA (ad : Addr) (n c i : Nat) (s : List W32) (p : By) (X : List W32) : Nat → Value → World → Prop
  | 0 => fun v w => v = .agg (U s)
  | 1 => fun v w => v = .slice (some ad) n c
  | 2 => fun v w => v = .int .i64 (i : Int)
  | 3 => fun v w => v = .pointer (some (ad.add (i * 64)))
  | 4 => fun v w => v = .agg (V8 p)
  | 5 => fun v w => v = .agg (U X)
  | _ => fun _ _ => True
theorem pdA_mono (ad : Addr) (n c i : Nat) (s : List W32) (p : By) (X : List W32) : ∀ k v w w', pdA ad n c i s p X k v w → Below w.heap.size w w' → pdA ad n c i s p X k v w'
  | 0, _, _, _, h, _ => h
  | 1, _, _, _, h, _ => h
  | 2, _, _, _, h, _ => h
  | 3, _, _, _, h, _ => h
  | 4, _, _, _, h, _ => h
  | 5, _, _, _, h, _ => h
  | _ + 6, _, _, _, _, _ => trivial
def pdB (g : Nat) (a : Addr) (r c j : Nat) (a2 : Addr) (r2 c2 : Nat) : Nat → Value → World → Prop
  | 0 => fun v w => v = .slice (some ⟨g, 0, none⟩) 64 64
  | 1 => fun v w => v = .slice (some a) r c
  | 2 => fun v w => v = .int .i64 (64 * (j : Int))
  | 3 => fun v w => v = .slice (some a2) r2 c2
  | _ => fun _ _ => True
theorem pdB_mono (g : Nat) (a : Addr) (r c j : Nat) (a2 : Addr) (r2 c2 : Nat) : ∀ k v w w', pdB g a r c j a2 r2 c2 k v w → Below w.heap.size w w' → pdB g a r c j a2 r2 c2 k v w'
  | 0, _, _, _, h, _ => h
  | 1, _, _, _, h, _ => h
  | 2, _, _, _, h, _ => h
  | 3, _, _, _, h, _ => h
  | _ + 4, _, _, _, _, _ => trivial
def pdC (v6 ov : Value) (F b : By) (s : List W32) (Z : By) : Nat → Value → World → Prop
  | 0 => fun v w => v = v6
  | 1 => fun v w => v = ov
  | 2 => fun v w => ∃ g, v = .slice (some ⟨g, 0, none⟩) 2 2 ∧ RdN w (some ⟨g, 0, none⟩) [F, b]
  | 3 => fun v w => v = .agg (V8 Z)
  | 4 => fun v w => v = .agg (U s)
  | 5 => fun v w => v = .agg (V8 Z)
  | 6 => fun v w => v = .bool true
  | 7 => fun v w => v = .bool true
  | 8 => fun v w => v = .bool true
  | 9 => fun v w => v = .bool true
  | _ => fun _ _ => True
theorem pdC_mono (v6 ov : Value) (F b : By) (s : List W32) (Z : By) : ∀ k v w w', pdC v6 ov F b s Z k v w → Below w.heap.size w w' → pdC v6 ov F b s Z k v w'
  | 0, _, _, _, h, _ => h
  | 1, _, _, _, h, _ => h
  | 2, _, _, _, h, hb => by obtain ⟨g, e, h2⟩ := h; exact ⟨g, e, h2.below hb⟩
  | 3, _, _, _, h, _ => h
  | 4, _, _, _, h, _ => h
  | 5, _, _, _, h, _ => h
  | 6, _, _, _, h, _ => h
  | 7, _, _, _, h, _ => h
  | 8, _, _, _, h, _ => h
  | 9, _, _, _, h, _ => h
  | _ + 10, _, _, _, _, _ => trivial
set_option maxRecDepth 100000 in
set_option maxHeartbeats 8000000 in
theorem shaBlocks_true (bs : List By) (A : Option Addr) (c : Nat) (b : By) (B : Option Addr) (d : Nat) (w : World) (hr : RdBlk w 64 A bs) (hc : bs.length ≤ c) (hrb : RdB w B b) (hd : b.length ≤ d) (y : b.length * 1 ≤ 140737488351232) (hnb : B = none → d = 0) : Calls Try.prog 6 #[.slice A bs.length c, .slice B b.length d] w fun e w' => e = .returned (.bool true) ∧ Below w.heap.size w w' := by
  have hE0 := Lib.hid (show EqN w b (.slice B b.length d) from ⟨B, d, rfl, hd, hrb, hnb⟩)
  have HR := Lib.hid hr
  obtain ⟨i35, hi35', hz35', hs35', hb35⟩ := info_parts info35
  obtain ⟨i5, hi5', h51, h52, h53⟩ := info_parts info5
  have HI35 := Lib.hid hi35'
  have HZ35 := Lib.hid hz35'
  have HS35 := Lib.hid hs35'
  have HI5 := Lib.hid hi5'
  have hz := zeros64b
  obtain ⟨Zb, hZb⟩ : ∃ Z, V8 (List.replicate 64 0) = Z := ⟨_, rfl⟩
  rw [hZb] at hz
  have HZ := Lib.hid hz
  have HZb := Lib.hid hZb
  clear h51 h52 h53 hr hrb hnb y hb35 hi35' hz35' hs35' hi5' hz hZb
  go_enter Try.func6, Try.ntmps6
  go_upto_if 13 with (fail)
  go_cut [0] from 14 to 15 (fun v wx => ∃ m : Nat, m ≤ 8 ∧ m ≤ bs.length ∧ v = .slice A m c ∧ wx = w)
  case first =>
    by_cases h6 : 8 < bs.length
    · have hcI : (8 : Int) ≤ (c : Int) := by omega
      have hdt : decide ((8 : Int) < (bs.length : Int)) = true := by simp; omega
      go_wp2
      rw [← hdt]
      go_meet
      case rel => exact ⟨8, by omega, by omega, rfl, rfl⟩
    · go_wp2
      go_meet
      case rel => exact ⟨bs.length, by omega, by omega, rfl, rfl⟩
  case rest =>
    obtain ⟨n, hn8, hnb, rfl, rfl⟩ := hcut
    have hR0 := HR.out.take n
    obtain ⟨ls, hls⟩ : ∃ ls, bs.take n = ls := ⟨_, rfl⟩
    have hln : ls.length = n := by rw [← hls, List.length_take]; omega
    rw [hls] at hR0
    have hcn : n ≤ c := by omega
    have HR0 := Lib.hid hR0
    have HLN := Lib.hid hln
    clear HR hR0 hls hnb hc hln
    go_upto_if 18 with (fail)
    go_cut [1] from 19 to 20 (fun v wy => ∃ m : Nat, m ≤ 600 ∧ m ≤ b.length ∧ v = .slice B m d ∧ wy = wc)
    case first =>
      by_cases h6 : 600 < b.length
      · have hcI : (600 : Int) ≤ (d : Int) := by omega
        have hdt : decide ((600 : Int) < (b.length : Int)) = true := by simp; omega
        go_wp2
        rw [← hdt]
        go_meet
        case rel => exact ⟨600, by omega, by omega, rfl, rfl⟩
      · go_wp2
        go_meet
        case rel => exact ⟨b.length, by omega, by omega, rfl, rfl⟩
    case rest =>
      obtain ⟨m, hm6, hmb, rfl, rfl⟩ := hcut
      have hE := hE0.out.take m hmb
      obtain ⟨b2, hb2⟩ : ∃ b2, b.take m = b2 := ⟨_, rfl⟩
      have hbn : b2.length = m := by rw [← hb2, List.length_take]; omega
      rw [hb2] at hE
      have HOV := Lib.hid hE
      have HBN := Lib.hid hbn
      clear hE0 hE hb2 hmb hd hbn
      have HS0 := Lib.hid (show (Try.prog.info? 31).map (·.size) = some (U startL).size by rw [U_size, startL_len]; kernel_rfl)
      go_upto_region 6 with (first | (go_at_call 32; refine (start_any _).mono ?_; rintro e w4 ⟨rfl, rfl⟩) | ((with_reducible show wpList _ _ _ (⟨none, .store 31 (.tmp 5) (.tmp 21), _, _, _, _⟩ :: _) _ _); refine wpList_store_row rfl 31 (.tmp 5) (.tmp 21) rfl (wc.heap.size + 1) (U startL) rfl rfl 31 _ (heap_new _ _ _ (by simp)) HS0.out (by rw [U_size, startL_len]; rfl) (U_one _) ?_) | fail)
      generalize hW1 : (World.setRow _ _ _) = W1
      obtain ⟨g5, hg5⟩ : ∃ g, wc.heap.size + 1 = g := ⟨_, rfl⟩
      have b1 : Below wc.heap.size wc W1 := by rw [← hW1]; exact below_setRow _ _ (((Below.refl _ _).alloc (Nat.le_refl _) _).alloc (by simp) _) (by omega)
      have c1 : W1.heap[g5]? = some (.cells (U startL) 31 (0, 0)) := by rw [← hW1, ← hg5]; exact setRow_heap _ _ _ _ _ _ (heap_new _ _ _ (by simp))
      have hs1 : W1.heap.size = g5 + 1 := by rw [← hW1, ← hg5]; simp [World.setRow]
      rw [hg5]
      have HB1 := Lib.hid b1
      have HC1 := Lib.hid c1
      have HST0 := Lib.hid (show startL = stB ls 0 from rfl)
      clear hW1 b1 c1
      go_wp2
      go_loopg [6, 7] n (fun gk v6 v7 wr => ∃ i : Nat, gk = n - i ∧ i ≤ n ∧ v7 = .int .i64 (i : Int) ∧ wr.ownsRow (g5 + 1) 5 1 v6 (ls.take i).flatten.length (bytesV (ls.take i).flatten) ∧ wr.heap[g5]? = some (.cells (U (stB ls i)) 31 (0, 0)) ∧ Below wc.heap.size wc wr ∧ g5 < wr.heap.size)
      case atStart => exact ⟨0, rfl, by omega, rfl, ⟨rfl, .inl ⟨rfl, rfl⟩⟩, by rw [← HST0.out]; exact HC1.out, HB1.out, by omega⟩
      case round =>
        clear HB1 HC1
        obtain ⟨i, rfl, hi, rfl, hown, hc5, hbw, hgr⟩ := hrel
        by_cases hlt : i < n
        · obtain ⟨ad, rfl, hpl, hrp⟩ := HR0.out.rd i (by rw [HLN.out]; exact hlt)
          have HALL := Lib.hid (show ∀ j, j < ls.length → (ls.getD j []).length = 64 from fun j hj => by obtain ⟨_, _, h, _⟩ := HR0.out.rd j hj; exact h)
          have hft := flat_take ls i (by rw [HLN.out]; exact hlt)
          obtain ⟨l, hl⟩ : ∃ l, (ls.take i).flatten = l := ⟨_, rfl⟩
          obtain ⟨l1, hl1⟩ : ∃ l1, (ls.take (i + 1)).flatten = l1 := ⟨_, rfl⟩
          have hll : l.length ≤ 512 := by rw [← hl, flat64 ls HALL.out i (by rw [HLN.out]; omega)]; omega
          have hsn := stB_succ ls HALL.out i (by rw [HLN.out]; exact hlt)
          have hsl : (stB ls i).length = 8 := stF_len _ _
          have hsl1 : (stB ls (i + 1)).length = 8 := stF_len _ _
          obtain ⟨s, hs⟩ : ∃ s, stB ls i = s := ⟨_, rfl⟩
          obtain ⟨X, hX⟩ : ∃ X, stB ls (i + 1) = X := ⟨_, rfl⟩
          obtain ⟨p, hp⟩ : ∃ p, ls.getD i [] = p := ⟨_, rfl⟩
          rw [hs] at hsn hsl hc5
          rw [hX] at hsn hsl1
          rw [hp] at hsn hft hpl hrp
          rw [hl] at hft hown
          rw [hl1] at hft
          have HX := Lib.hid hsn.symm
          have HX2 := Lib.hid hX
          have HFT := Lib.hid hft.symm
          have HL1 := Lib.hid hl1
          have HSL := Lib.hid hsl
          have HPL := Lib.hid hpl
          have HRP : Hid (RdB wr (some (ad.add (i * 64))) p) := Lib.hid (hrp.below hbw (fun _ _ h => h))
          have HRP0 := Lib.hid hrp
          have H5 := Lib.hid hc5
          have HO := Lib.hid hown
          have HBW := Lib.hid hbw
          have HZN := Lib.hid (show (Try.prog.info? 31).map (·.size) = some (U X).size by rw [U_size, hsl1]; kernel_rfl)
          have HZE := Lib.hid (show (U s).size = (U X).size by rw [U_size, U_size, hsl, hsl1])
          clear hsn hsl hsl1 hs hX hp hft hl hl1 hpl hrp hc5 hown hbw
          go_upto_region 10 with (fail)
          refine wp_region_mono (w0 := _) 6 [some 28, some 29, some 30, some 31, some 32, some 33] (by kernel_rfl) (by kernel_rfl) (by kernel_rfl) (by kernel_rfl) (of_decide_eq_true (by kernel_rfl)) (by kernel_rfl) (pdA ad n c i s p X) ?_ ?_ ?_
          · exact pdA_mono ad n c i s p X
          · intro i hi o w1 b ho hbel hv hstood hsize K hK
            have hc : i = 0 ∨ i = 1 ∨ i = 2 ∨ i = 3 ∨ i = 4 ∨ i = 5 := by omega
            rcases hc with rfl | rfl | rfl | rfl | rfl | rfl
            · obtain rfl : (⟨some 28, .load 31 (Operand.tmp 5), _, _, _, _⟩ : Oper) = o := Option.some.inj ho
              refine ask_plain rfl ?_
              have e1 : b.eval (.tmp 5) = .pointer (some ⟨g5, 0, none⟩) := (hstood 5 (by kernel_rfl)).trans rfl
              exact wp_load_cells 31 (.tmp 5) rfl ⟨g5, 0, none⟩ e1 (U s) (.array 8 30) rfl (fun j v hj => by rw [add_zero_off, Joins.cell_of_block ((hbel.block _ (Array.getElem?_eq_some_iff.1 H5.out).1).trans H5.out)]; exact hj) Try.underlying31 (by rw [U_size, HSL.out]; kernel_rfl) (hK _ _ rfl (Below.refl _ _))
            · obtain rfl : (⟨some 29, .move (Operand.tmp 0), _, _, _, _⟩ : Oper) = o := Option.some.inj ho
              refine ask_plain rfl ?_
              have e : b.eval (.tmp 0) = .slice (some ad) n c := (hstood 0 (by kernel_rfl)).trans rfl
              exact wp_val _ rfl (hK _ _ e (Below.refl _ _))
            · obtain rfl : (⟨some 30, .move (Operand.tmp 7), _, _, _, _⟩ : Oper) = o := Option.some.inj ho
              refine ask_plain rfl ?_
              have e : b.eval (.tmp 7) = .int .i64 (i : Int) := (hstood 7 (by kernel_rfl)).trans rfl
              exact wp_val _ rfl (hK _ _ e (Below.refl _ _))
            · obtain rfl : (⟨some 31, .indexAddr 41 (Operand.tmp 29) (Operand.tmp 30), _, _, _, _⟩ : Oper) = o := Option.some.inj ho
              refine ask_plain rfl ?_
              have e1 : b.eval (.tmp 29) = .slice (some ad) n c := hv 1 29 (by kernel_rfl) (by kernel_rfl) (of_decide_eq_true (by kernel_rfl))
              have e2 : b.eval (.tmp 30) = .int .i64 (i : Int) := hv 2 30 (by kernel_rfl) (by kernel_rfl) (of_decide_eq_true (by kernel_rfl))
              exact wp_val (.pointer (some (ad.add (i * 64)))) (by simp only [execOp, e1, e2]; exact idx41 ad n c i hlt w1) (hK _ _ rfl (Below.refl _ _))
            · obtain rfl : (⟨some 32, .load 32 (Operand.tmp 31), _, _, _, _⟩ : Oper) = o := Option.some.inj ho
              refine ask_plain rfl ?_
              have e1 : b.eval (.tmp 31) = .pointer (some (ad.add (i * 64))) := hv 3 31 (by kernel_rfl) (by kernel_rfl) (of_decide_eq_true (by kernel_rfl))
              exact wp_load_cells 32 (.tmp 31) rfl (ad.add (i * 64)) e1 (V8 p) (.array 64 5) rfl (fun j v hj => RdB.v8 (HRP.out.below hbel (fun _ _ h => h)) j v hj) Try.underlying32 (by rw [V8_size, HPL.out]; kernel_rfl) (hK _ _ rfl (Below.refl _ _))
            · obtain rfl : (⟨some 33, .call { callee := (Callee.value (Operand.func 28)), args := #[(Operand.tmp 28), (Operand.tmp 32)], argTypes := #[31, 32] }, _, _, _, _⟩ : Oper) = o := Option.some.inj ho
              refine ask_plain rfl ?_
              have e1 : b.eval (.tmp 28) = .agg (U s) := hv 0 28 (by kernel_rfl) (by kernel_rfl) (of_decide_eq_true (by kernel_rfl))
              have e2 : b.eval (.tmp 32) = .agg (V8 p) := hv 4 32 (by kernel_rfl) (by kernel_rfl) (of_decide_eq_true (by kernel_rfl))
              refine wp_call_fn 28 #[.tmp 28, .tmp 32] #[31, 32] rfl Try.f28 _ Try.func28 (by kernel_rfl) rfl #[.agg (U s), .agg (V8 p)] (by simp [e1, e2]) ((step_any s HSL.out p HPL.out w1).mono ?_)
              rintro e w2 ⟨rfl, hb2⟩
              rw [HX.out]
              exact ⟨_, rfl, hK _ _ rfl hb2⟩
          · intro vs w3 hp hb3
            have v0 : vs 0 = .agg (U s) := hp 0 (by decide)
            have v1 : vs 1 = .slice (some ad) n c := hp 1 (by decide)
            have v2 : vs 2 = .int .i64 (i : Int) := hp 2 (by decide)
            have v3 : vs 3 = .pointer (some (ad.add (i * 64))) := hp 3 (by decide)
            have v4 : vs 4 = .agg (V8 p) := hp 4 (by decide)
            have v5 : vs 5 = .agg (U X) := hp 5 (by decide)
            have c3 : w3.heap[g5]? = some (.cells (U s) 31 (0, 0)) := keepH hb3 H5.out
            have O3 := own_row_other (own_below HO.out hb3) (show g5 < g5 + 1 by omega) (U X)
            have C3 := Lib.hid c3
            have BW3 := Lib.hid (below_setRow _ (U X) (HBW.out.trans (hb3.mono HBW.out.size)) (show wc.heap.size ≤ g5 by omega))
            have hs3 : (w3.setRow g5 (U X)).heap.size = w3.heap.size := by simp [World.setRow]
            have hge3 := hb3.size
            have c4 := Lib.hid (setRow_heap w3 g5 _ (U X) _ _ c3)
            have HO3 := Lib.hid O3
            change wpList _ _ _ [_] _ _
            simp only [putD, Act.put, List.setIfInBounds_toArray, List.set_cons_zero, List.set_cons_succ, v0, v1, v2, v3, v4, v5]
            clear v0 v1 v2 v3 v4 v5 hp hb3 c3 O3 HO HBW H5
            refine wpList_store_row rfl 31 (.tmp 5) (.tmp 33) rfl g5 (U X) rfl rfl 31 (U s) C3.out HZN.out HZE.out (U_one _) ?_
            obtain ⟨W4, hW4⟩ : ∃ W, w3.setRow g5 (U X) = W := ⟨_, rfl⟩
            rw [hW4] at BW3 c4 HO3 hs3 ⊢
            have HRP4 : Hid (RdB W4 (some (ad.add (i * 64))) p) := Lib.hid (HRP0.out.below BW3.out (fun _ _ h => h))
            clear hW4 HRP C3
            try simp only [Act.put, List.setIfInBounds_toArray, List.set_cons_zero, List.set_cons_succ]
            go_wp2_with (first | (at_builtin; refine wpList_append_bytes rfl (.tmp 34) (.tmp 38) rfl (g5 + 1) _ l.length (bytesV l) rfl HO3.out (some (ad.add (i * 64))) 64 p (by rw [HPL.out]; rfl) HRP4.out (fun h => by cases h) (by rw [HPL.out]; omega) (by rw [HPL.out]; omega) (by omega) ?_; intro v2 w5 hown hgrow _; have hb5 : Below (g5 + 1) W4 w5 := (Below.refl _ _).grown hgrow (by omega) (own_base' HO3.out); have HO5 := Lib.hid hown; have HB5 := Lib.hid hb5; clear hown hgrow hb5) | fail)
            go_roundg (n - (i + 1))
            case measure => omega
            case rel =>
              refine ⟨i + 1, rfl, by omega, by go_num, ?_, ?_, BW3.out.trans (HB5.out.mono (by omega)), by have := HB5.out.size; omega⟩
              · rw [HL1.out, ← HFT.out, List.length_append, bytesV_app]; exact HO5.out
              · rw [HX2.out, HB5.out.block _ (by omega)]; exact c4.out
        · obtain rfl : i = n := by omega
          have hall : ∀ j, j < ls.length → (ls.getD j []).length = 64 := fun j hj => by obtain ⟨_, _, h, _⟩ := HR0.out.rd j hj; exact h
          have hFl := flat64 ls hall i (by rw [HLN.out]; omega)
          have hst := stB_start ls hall
          have hsum := sum_blocks ls hall b2
          have hbr := blk_rest (ls.take i).flatten
          rw [show ls.take i = ls from List.take_of_length_le (by rw [HLN.out]; omega)] at hown hFl hbr
          rw [HLN.out] at hst hsum
          obtain ⟨F, hF⟩ : ∃ F, ls.flatten = F := ⟨_, rfl⟩
          rw [hF] at hown hFl hst hsum hbr
          obtain ⟨fl, hfl⟩ : ∃ k, F.length = k := ⟨_, rfl⟩
          obtain ⟨N, hN⟩ : ∃ N, fl + m = N := ⟨_, rfl⟩
          have hNb : N = 64 * i + b2.length := by rw [HBN.out]; omega
          have hrf := rest_full b2 i N hNb
          obtain ⟨R, hR⟩ : ∃ R, b2 ++ padL N = R := ⟨_, rfl⟩
          obtain ⟨k, hk⟩ : ∃ k, 64 * k = R.length := ⟨R.length / 64, by rw [hR] at hrf; omega⟩
          have hpl := padL_len N
          have hRl : R.length ≤ 672 := by rw [← hR, List.length_append, HBN.out]; omega
          have hRp : 1 ≤ k := by
            have h0 : 1 ≤ (padL N).length := by unfold padL; rw [List.length_append, headB_len]; omega
            have h1 : 1 ≤ R.length := by rw [← hR, List.length_append]; omega
            omega
          have hst2 := hst R
          have hsm := hsum N k hNb (by rw [hR]; exact hk)
          rw [hR] at hsm
          rw [hst2] at hc5
          have HST := Lib.hid (show ∀ j, stF (F ++ R) (i + (j + 1)) = stepL (stF (F ++ R) (i + j)) (blk R j) from fun j => by rw [← hbr R i j hFl]; rfl)
          obtain ⟨T, hT⟩ : ∃ T, F ++ R = T := ⟨_, rfl⟩
          rw [hT] at hsm hc5 HST
          obtain ⟨A6, c6, hv6, hc6, hr6, hn6⟩ := own_bytes hown
          rw [hfl] at hv6 hc6
          have HO6 := Lib.hid hown
          have HV6 := Lib.hid hv6
          have H5 := Lib.hid hc5
          have HBW := Lib.hid hbw
          have HR2 := Lib.hid hR
          have HSM := Lib.hid hsm
          have HPD := Lib.hid (show ∀ w, Calls Try.prog 30 #[.int .u64 ((fl : Int) + (m : Int))] w fun e w' => ∃ v, e = .returned v ∧ w'.ownsRow w.heap.size 5 1 v (padL N).length (bytesV (padL N)) ∧ Below w.heap.size w w' from fun w => by
            have h := pad_any N (by omega) w
            rw [show ((N : Nat) : Int) = (fl : Int) + (m : Int) by rw [← hN]; push_cast; rfl] at h
            exact h)
          obtain ⟨B', d', hov, hd', hrb', hnb'⟩ := HOV.out
          rw [HBN.out] at hov hd'
          simp only [Value.slice.injEq] at hov
          obtain ⟨rfl, _, rfl⟩ := hov
          have HRB : Hid (RdB wr B b2) := Lib.hid (hrb'.below hbw (fun _ _ h => h))
          have hfl5 : fl ≤ 512 := by omega
          have HNB := Lib.hid hnb'
          have HK := Lib.hid hk
          have HFL := Lib.hid hfl
          have HFL2 := Lib.hid hFl
          have HS1 := Lib.hid hs1
          subst hv6
          have hwg : wc.heap.size ≤ g5 := by omega
          clear hi hlt hk hfl hFl hs1 hg5 hnb'
          clear hall hst hsum hbr hF hNb hrf hR hpl hst2 hT hr6 hn6 hown hc5 hbw hrb' hsm hN
          go_wp2_with (first | ((with_reducible show wpList _ _ _ (⟨some 40, .buildSlice 35 0 #[], _, _, _, _⟩ :: _) _ _); refine wpList_buildSlice0 rfl 35 5 rfl i5 Try.underlying35 HI5.out ?_; try simp only [Act.put, List.setIfInBounds_toArray, List.set_cons_zero, List.set_cons_succ]; obtain ⟨W2, hW2⟩ : ∃ W, wr.alloc (.cells #[] 5) = W := ⟨_, rfl⟩; have HB2 := Lib.hid (show Below wr.heap.size wr W2 by rw [← hW2]; exact below_alloc1 _ _); have OZ := Lib.hid (show W2.ownsRow wr.heap.size 5 1 (.slice (some ⟨wr.heap.size, 0, none⟩) 0 0) 0 [] by rw [← hW2]; exact own_zero (heap_new _ _ _ rfl) (Nat.le_refl _)); have HRB2 := Lib.hid (show RdB W2 B b2 from HRB.out.below HB2.out (fun _ _ h => h)); rw [hW2]; clear hW2 HRB) | (at_builtin; refine wpList_append_bytes rfl (.tmp 40) (.tmp 41) rfl wr.heap.size _ 0 [] rfl OZ.out B d b2 (by rw [HBN.out]; rfl) HRB2.out HNB.out (by rw [HBN.out]; exact hd') (by rw [HBN.out]; omega) HB2.out.size ?_; intro v42 w5 hown hgrow _; have hb5 : Below wr.heap.size wr w5 := HB2.out.trans ((Below.refl _ _).grown hgrow HB2.out.size (own_base' OZ.out)); have HO5 := Lib.hid hown; have HB5 := Lib.hid hb5; clear hown hgrow hb5) | fail)
          refine (HPD.out _).mono ?_
          rintro e w7 ⟨v49, rfl, hown7, hb7⟩
          obtain ⟨A9, c9, rfl, hc9, hr9, hn9⟩ := own_bytes hown7
          have HO7 := Lib.hid (own_below HO5.out hb7)
          have HB7 := Lib.hid (HB5.out.trans (hb7.mono HB5.out.size))
          have HR9 := Lib.hid hr9
          have HN9 := Lib.hid hn9
          have HC9 := Lib.hid hc9
          obtain ⟨rl, hrl⟩ : ∃ q, R.length = q := ⟨_, rfl⟩
          rw [hrl] at hRl
          have hk2 : 64 * k = rl := by rw [← hrl]; exact HK.out
          have hm0 : (rl : Int) % 64 = 0 := by omega
          have HRL := Lib.hid hrl
          have hPL : (padL N).length ≤ 72 := padL_len N
          clear hown7 hb7 HO5 HB5 hr9 hn9 hc9 hrl HPD
          obtain ⟨pl, hpl⟩ : ∃ q, (padL N).length = q := ⟨_, rfl⟩
          have HPLN := Lib.hid hpl
          rw [hpl] at hPL ⊢
          clear hpl
          go_wp2_with (first | (at_builtin; refine wpList_append_bytes rfl (.tmp 42) (.tmp 49) rfl wr.heap.size _ _ _ rfl HO7.out A9 c9 (padL N) (by rw [HPLN.out]; rfl) HR9.out HN9.out HC9.out (by rw [HPLN.out, HBN.out]; omega) HB7.out.size ?_; intro v8 w8 hown hgrow _; have hb8 : Below wr.heap.size wr w8 := HB7.out.trans ((Below.refl _ _).grown hgrow HB7.out.size (own_base' HO7.out)); have HO8 : Hid (w8.ownsRow wr.heap.size 5 1 v8 R.length (bytesV R)) := Lib.hid (by have h := hown; rw [Nat.zero_add, List.nil_append, ← bytesV_app, HR2.out, ← List.length_append, HR2.out] at h; exact h); have HB8 := Lib.hid hb8; clear hown hgrow hb8; obtain ⟨A8, c8, rfl, hc8, hr8, hn8'⟩ := own_bytes HO8.out; rw [HRL.out] at hc8 HO8; have HR8 := Lib.hid hr8; have HN8 := Lib.hid hn8'; clear hr8 hn8'; rw [HRL.out]) | fail)
          obtain ⟨a8, rfl⟩ : ∃ a, A8 = some a := by
            obtain ⟨a, e, _⟩ := RdB.at' HR8.out 0 (by rw [HRL.out]; omega)
            exact ⟨a, e⟩
          have HOF8 := Lib.hid (own_below HO6.out HB8.out)
          have H58 := Lib.hid (below_heap HB8.out H5.out hgr)
          have HBW8 := Lib.hid (HBW.out.trans (HB8.out.mono HBW.out.size))
          have hB8 := HB8.out.size
          obtain ⟨B2, hB2⟩ : ∃ q, wr.heap.size = q := ⟨_, rfl⟩
          rw [hB2] at HO8 hB8 hgr
          rw [hB2]
          have HZS := Lib.hid (show Zb.size = 64 by rw [← HZb.out, V8_size]; rfl)
          clear hB2 HO6 HB8 H5 HBW HR8 HN8 HR9 HN9 HC9 HO7 HB7 OZ HB2 hm0 HV6 HR2 HPLN hPL hd' hfl5
          go_loopg [9] k (fun gk v9 wq => ∃ j : Nat, gk = k - j ∧ j ≤ k ∧ v9 = .int .i64 (64 * (j : Int)) ∧ wq.ownsRow (g5 + 1) 5 1 (.slice A6 fl c6) F.length (bytesV F) ∧ wq.ownsRow B2 5 1 (.slice (some a8) rl c8) rl (bytesV R) ∧ wq.heap[g5]? = some (.cells (U (stF T (i + j))) 31 (0, 0)) ∧ Below wc.heap.size wc wq ∧ B2 ≤ wq.heap.size)
          case atStart => exact ⟨0, rfl, by omega, rfl, HOF8.out, HO8.out, H58.out, HBW8.out, hB8⟩
          case round =>
            clear HOF8 HO8 H58 HBW8 hB8
            obtain ⟨j, rfl, hj, rfl, hof, hor, hc5, hbw, hb2⟩ := hrel
            by_cases hlt : j < k
            · have hgr2 : g5 < wr.heap.size := by omega
              obtain ⟨A', c', e', hc', hr', _⟩ := own_bytes hor
              rw [HRL.out] at e' hc'
              simp only [Value.slice.injEq] at e'
              obtain ⟨rfl, _, rfl⟩ := e'
              have hpl : (blk R j).length = 64 := blk_len R j (by rw [HRL.out]; omega)
              have hd := hr'.drop (64 * j) c8 (by rw [HRL.out]; omega) (by rw [HRL.out]; omega)
              have hfr := fun w => run_from (some a8) rl c8 (64 * j) (by omega) (by omega) w
              rw [if_neg (show ¬ c8 = 64 * j by omega)] at hd
              simp only [if_neg (show ¬ c8 = 64 * j by omega)] at hfr
              rw [show ((64 * j : Nat) : Int) = 64 * (j : Int) by push_cast; rfl] at hfr
              have hd2 : RdB wr (some (a8.add (64 * j))) (blk R j) := hd.take 64
              simp only [Option.map_some] at hfr
              obtain ⟨a9, ha9⟩ : ∃ a, a8.add (64 * j) = a := ⟨_, rfl⟩
              obtain ⟨r9, hr9⟩ : ∃ a, rl - 64 * j = a := ⟨_, rfl⟩
              obtain ⟨c9', hc9'⟩ : ∃ a, c8 - 64 * j = a := ⟨_, rfl⟩
              rw [ha9] at hd2
              rw [ha9, hr9, hc9'] at hfr
              have hr64 : 64 ≤ r9 := by omega
              have hxs := HST.out j
              have hsl : (stF T (i + j)).length = 8 := stF_len _ _
              have hxl : (stF T (i + (j + 1))).length = 8 := stF_len _ _
              obtain ⟨p, hp⟩ : ∃ p, blk R j = p := ⟨_, rfl⟩
              obtain ⟨s, hs⟩ : ∃ s, stF T (i + j) = s := ⟨_, rfl⟩
              obtain ⟨X, hX⟩ : ∃ X, stF T (i + (j + 1)) = X := ⟨_, rfl⟩
              rw [hp] at hpl hd2 hxs
              rw [hs] at hsl hxs hc5
              rw [hX] at hxl hxs
              have HFR := Lib.hid hfr
              have HRP := Lib.hid hd2
              have HPL := Lib.hid hpl
              have HX := Lib.hid hxs.symm
              have HX2 := Lib.hid hX
              have HSL := Lib.hid hsl
              have HXL := Lib.hid hxl
              have HOF := Lib.hid hof
              have HOR := Lib.hid hor
              have H5 := Lib.hid hc5
              have HBW := Lib.hid hbw
              have hjI : 64 * (j : Int) < (rl : Int) := by omega
              clear hfr hd2 hd hpl hxs hX hsl hxl hof hor hc5 hbw hs hp ha9 hr9 hc9' hr' hc' hk2
              go_upto_region 19 with (fail)
              rw [← HZ.out]
              obtain ⟨W8, hW8⟩ : ∃ W, wr.alloc (.cells Zb 32) = W := ⟨_, rfl⟩
              obtain ⟨g10, hg10⟩ : ∃ g, wr.heap.size = g := ⟨_, rfl⟩
              have B8 := Lib.hid (show Below wr.heap.size wr W8 by rw [← hW8]; exact below_alloc1 _ _)
              have Z10 := Lib.hid (show W8.heap[g10]? = some (.cells Zb 32 (0, 0)) by rw [← hW8, ← hg10]; exact heap_new _ _ _ rfl)
              rw [hW8, hg10]
              rw [hg10] at hgr2
              have HG10 := Lib.hid hg10
              clear hW8 hg10
              refine wp_region_mono (w0 := _) 4 [some 61, some 62, some 63, some 64] (by kernel_rfl) (by kernel_rfl) (by kernel_rfl) (by kernel_rfl) (of_decide_eq_true (by kernel_rfl)) (by kernel_rfl) (pdB g10 a8 rl c8 j a9 r9 c9') ?_ ?_ ?_
              · exact pdB_mono g10 a8 rl c8 j a9 r9 c9'
              · intro i hi o w1 b ho hbel hv hstood hsize K hK
                have hc : i = 0 ∨ i = 1 ∨ i = 2 ∨ i = 3 := by omega
                rcases hc with rfl | rfl | rfl | rfl
                · obtain rfl : (⟨some 61, .slice 32 (Operand.tmp 10) none none none, _, _, _, _⟩ : Oper) = o := Option.some.inj ho
                  refine ask_plain rfl ?_
                  have e : b.eval (.tmp 10) = .pointer (some ⟨g10, 0, none⟩) := (hstood 10 (by kernel_rfl)).trans rfl
                  have hf := slice32 ⟨g10, 0, none⟩ w1
                  exact wp_val (.slice (some ⟨g10, 0, none⟩) 64 64) (by simp only [execOp, e, hf, Option.map_none, Sem.run_bind, Result.andThen]; rfl) (hK _ _ rfl (Below.refl _ _))
                · obtain rfl : (⟨some 62, .move (Operand.tmp 8), _, _, _, _⟩ : Oper) = o := Option.some.inj ho
                  refine ask_plain rfl ?_
                  have e : b.eval (.tmp 8) = .slice (some a8) rl c8 := (hstood 8 (by kernel_rfl)).trans rfl
                  exact wp_val _ rfl (hK _ _ e (Below.refl _ _))
                · obtain rfl : (⟨some 63, .move (Operand.tmp 9), _, _, _, _⟩ : Oper) = o := Option.some.inj ho
                  refine ask_plain rfl ?_
                  have e : b.eval (.tmp 9) = .int .i64 (64 * (j : Int)) := (hstood 9 (by kernel_rfl)).trans rfl
                  exact wp_val _ rfl (hK _ _ e (Below.refl _ _))
                · obtain rfl : (⟨some 64, .slice 35 (Operand.tmp 62) (some (Operand.tmp 63)) none none, _, _, _, _⟩ : Oper) = o := Option.some.inj ho
                  refine ask_plain rfl ?_
                  have e1 : b.eval (.tmp 62) = .slice (some a8) rl c8 := hv 1 62 (by kernel_rfl) (by kernel_rfl) (of_decide_eq_true (by kernel_rfl))
                  have e2 : b.eval (.tmp 63) = .int .i64 (64 * (j : Int)) := hv 2 63 (by kernel_rfl) (by kernel_rfl) (of_decide_eq_true (by kernel_rfl))
                  have hf := HFR.out w1
                  exact wp_val (.slice (some a9) r9 c9') (by simp only [execOp, e1, e2, hf, Option.map_some, Option.map_none, Sem.run_bind, Result.andThen]; rfl) (hK _ _ rfl (Below.refl _ _))
              · intro vs w3 hp hb3
                have v0 : vs 0 = .slice (some ⟨g10, 0, none⟩) 64 64 := hp 0 (by decide)
                have v1 : vs 1 = .slice (some a8) rl c8 := hp 1 (by decide)
                have v2 : vs 2 = .int .i64 (64 * (j : Int)) := hp 2 (by decide)
                have v3 : vs 3 = .slice (some a9) r9 c9' := hp 3 (by decide)
                have B3 : Below wr.heap.size wr w3 := B8.out.trans (hb3.mono B8.out.size)
                have hcp := run_copy_row (P := Try.prog) w3 35 35 3 5 g10 0 64 64 a9 r9 c9' Zb 32 (p.map fun b => Value.int .u8 (b.toNat : Int)) Try.underlying35 (by kernel_rfl) (keepH hb3 Z10.out) (by rw [List.length_map, HPL.out]; show 64 = min r9 64; omega) (by
                  intro j' v hj'
                  exact RdB.v8 (HRP.out.below B3 (fun _ _ h => h)) j' v (by simpa [V8] using hj')) (by rw [List.length_map, HPL.out, HZS.out]; omega) (by
                  intro v hv
                  obtain ⟨b, _, rfl⟩ := List.mem_map.1 hv
                  rfl)
                rw [show (Zb.toList.take 0 ++ (p.map fun b => Value.int .u8 (b.toNat : Int)) ++ Zb.toList.drop (0 + (p.map fun b => Value.int .u8 (b.toNat : Int)).length)).toArray = V8 p from by
                  rw [List.length_map, HPL.out, List.drop_eq_nil_of_le (by rw [Array.length_toList, HZS.out]; omega)]
                  simp [V8], List.length_map, HPL.out] at hcp
                have H53 : w3.heap[g5]? = some (.cells (U s) 31 (0, 0)) := below_heap B3 H5.out (by rw [HG10.out]; exact hgr2)
                have B9 : Below wr.heap.size wr (w3.setRow g10 (V8 p)) := below_setRow _ _ B3 (by rw [HG10.out]; exact Nat.le_refl _)
                have H59 := Lib.hid (show (w3.setRow g10 (V8 p)).heap[g5]? = some (.cells (U s) 31 (0, 0)) by rw [setRow_other _ _ _ _ (by omega)]; exact H53)
                have H109 := Lib.hid (setRow_heap w3 g10 _ (V8 p) _ _ (keepH hb3 Z10.out))
                change wpList _ _ _ [_] _ _
                simp only [putD, Act.put, List.setIfInBounds_toArray, List.set_cons_zero, List.set_cons_succ, v0, v1, v2, v3]
                obtain ⟨W9, hW9⟩ : ∃ W, w3.setRow g10 (V8 p) = W := ⟨_, rfl⟩
                rw [hW9] at hcp B9 H59 H109
                have HB9 := Lib.hid B9
                have SP := Lib.hid (step_any s HSL.out p HPL.out W9)
                rw [HX.out] at SP
                have HZN := Lib.hid (show (Try.prog.info? 31).map (·.size) = some (U X).size by rw [U_size, HXL.out]; kernel_rfl)
                have HZE := Lib.hid (show (U s).size = (U X).size by rw [U_size, U_size, HXL.out, HSL.out])
                have HZ1 := Lib.hid (show (Try.prog.info? 31).map (·.size) = some (U s).size by rw [U_size, HSL.out]; kernel_rfl)
                have HZ2 := Lib.hid (show (Try.prog.info? 32).map (·.size) = some (V8 p).size by rw [V8_size, HPL.out]; kernel_rfl)
                clear v0 v1 v2 v3 hp hb3 B3 B8 Z10 H53 hW9 B9 HFR HRP
                go_wp2_with (first | ((with_reducible show wpList _ _ _ (⟨some 66, .load 31 (.tmp 5), _, _, _, _⟩ :: _) _ _); refine wpList_load_row rfl 31 (.tmp 5) rfl g5 rfl 31 (U s) _ H59.out Try.underlying31 rfl HZ1.out ?_) | ((with_reducible show wpList _ _ _ (⟨some 67, .load 32 (.tmp 10), _, _, _, _⟩ :: _) _ _); refine wpList_load_row rfl 32 (.tmp 10) rfl g10 rfl 32 (V8 p) _ H109.out Try.underlying32 rfl HZ2.out ?_) | (go_at_call 28; refine SP.out.mono ?_; rintro e w10 ⟨rfl, hb10⟩; have H510 := Lib.hid (keepH hb10 H59.out); have HB10 := Lib.hid (HB9.out.trans (hb10.mono HB9.out.size)); clear hb10) | ((with_reducible show wpList _ _ _ (⟨none, .store 31 (.tmp 5) (.tmp 68), _, _, _, _⟩ :: _) _ _); refine wpList_store_row rfl 31 (.tmp 5) (.tmp 68) rfl g5 (U X) rfl rfl 31 (U s) H510.out HZN.out HZE.out (U_one _) ?_) | fail)
                go_roundg (k - (j + 1))
                case measure => omega
                case rel =>
                  have hs10 := HB10.out.size
                  refine ⟨j + 1, rfl, by omega, by go_num, own_row_other (own_below HOF.out HB10.out) (by omega) _, own_row_other (own_below HOR.out HB10.out) (by omega) _, by rw [HX2.out]; exact setRow_heap _ _ _ _ _ _ H510.out, below_setRow _ _ (HBW.out.trans (HB10.out.mono HBW.out.size)) (by omega), by simpa [World.setRow] using Nat.le_trans hb2 hs10⟩
            · obtain rfl : j = k := by omega
              have hsl : (stF T (i + j)).length = 8 := stF_len _ _
              have hsm := HSM.out
              obtain ⟨s, hs⟩ : ∃ s, stF T (i + j) = s := ⟨_, rfl⟩
              rw [hs] at hsl hc5 hsm
              have hZl : (sumL (F ++ b2)).length = 32 := sumL_len _
              obtain ⟨Z, hZ2⟩ : ∃ Z, sumL (F ++ b2) = Z := ⟨_, rfl⟩
              rw [hZ2] at hsm hZl
              have HDG := Lib.hid hsm
              have HZZ := Lib.hid hZ2
              have HSL := Lib.hid hsl
              have H5 := Lib.hid hc5
              have HFB := Lib.hid (show [F, b2].flatten = F ++ b2 by simp)
              have HFM := Lib.hid (show (F ++ b2).length ≤ 140737488355000 by rw [List.length_append, HFL.out, HBN.out]; have := HFL2.out; have := HFL.out; omega)
              have HEQ := Lib.hid (fun w => eq_dig 25 Try.underlying25 Z Z hZl hZl w)
              rw [show (Z == Z) = true by simp] at HEQ
              have hef : EqN wr F (.slice A6 fl c6) := EqN.own hof
              have hov := HOV.out.below hbw
              have hi35 := HI35.out
              have hz35 := HZ35.out
              have hs35 := HS35.out
              have hfi : Instr.fill (fun i => some (i * 1, 1)) ((Array.range (2 * 1)).map ((Value.slice none 0 0).cells[· % (Value.slice none 0 0).cells.size]!)) [(0, .slice A6 fl c6), (1, .slice B m d)] = some #[.slice A6 fl c6, .slice B m d] := by kernel_rfl
              have HBW := Lib.hid hbw
              have hjI : ¬ 64 * (j : Int) < (rl : Int) := by omega
              clear hsl hsm hc5 hs hZ2 hZl hof hor hbw
              obtain ⟨v6, hv6⟩ : ∃ v, Value.slice A6 fl c6 = v := ⟨_, rfl⟩
              obtain ⟨ov, hov2⟩ : ∃ v, Value.slice B m d = v := ⟨_, rfl⟩
              rw [hv6] at hef hfi ⊢
              rw [hov2] at hov hfi ⊢
              have HEF := Lib.hid hef
              replace hov := Lib.hid hov
              have HFI := Lib.hid hfi
              clear hef hfi hv6 hov2 HOV hk2
              have HOV := hov
              clear hov
              go_upto_region 21 with (fail)
              refine wp_region_mono (w0 := _) 10 [some 69, some 70, some 71, some 72, some 73, some 74, some 75, some 76, some 77, some 78] (by kernel_rfl) (by kernel_rfl) (by kernel_rfl) (by kernel_rfl) (of_decide_eq_true (by kernel_rfl)) (by kernel_rfl) (pdC v6 ov F b2 s Z) ?_ ?_ ?_
              · exact pdC_mono v6 ov F b2 s Z
              · intro i hi o w1 b ho hbel hv hstood hsize K hK
                have hc : i = 0 ∨ i = 1 ∨ i = 2 ∨ i = 3 ∨ i = 4 ∨ i = 5 ∨ i = 6 ∨ i = 7 ∨ i = 8 ∨ i = 9 := by omega
                rcases hc with rfl | rfl | rfl | rfl | rfl | rfl | rfl | rfl | rfl | rfl
                · obtain rfl : (⟨some 69, .move (Operand.tmp 6), _, _, _, _⟩ : Oper) = o := Option.some.inj ho
                  refine ask_plain rfl ?_
                  have e : b.eval (.tmp 6) = v6 := (hstood 6 (by kernel_rfl)).trans rfl
                  exact wp_val _ rfl (hK _ _ e (Below.refl _ _))
                · obtain rfl : (⟨some 70, .move (Operand.tmp 1), _, _, _, _⟩ : Oper) = o := Option.some.inj ho
                  refine ask_plain rfl ?_
                  have e : b.eval (.tmp 1) = ov := (hstood 1 (by kernel_rfl)).trans rfl
                  exact wp_val _ rfl (hK _ _ e (Below.refl _ _))
                · obtain rfl : (⟨some 71, .buildSlice 22 2 #[(0, (Operand.tmp 69)), (1, (Operand.tmp 70))], _, _, _, _⟩ : Oper) = o := Option.some.inj ho
                  refine ask_plain rfl ?_
                  have e1 : b.eval (.tmp 69) = v6 := hv 0 69 (by kernel_rfl) (by kernel_rfl) (of_decide_eq_true (by kernel_rfl))
                  have e2 : b.eval (.tmp 70) = ov := hv 1 70 (by kernel_rfl) (by kernel_rfl) (of_decide_eq_true (by kernel_rfl))
                  refine wp_buildSlice 22 35 2 _ rfl #[v6, ov] i35 (.slice none 0 0) Try.underlying22 hi35 hz35 (by rw [hs35]; decide) (by rw [hs35]; decide) (by rw [hs35]; simp only [List.map_toArray, List.map_cons, List.map_nil, e1, e2]; exact HFI.out) (hK _ _ ⟨_, rfl, RdN.new2 w1 F b2 v6 ov 35 (0, 0) _ rfl (HEF.out.below hbel) (HOV.out.below hbel)⟩ (below_alloc1 _ _))
                · obtain rfl : (⟨some 72, .call { callee := (Callee.value (Operand.func 25)), args := #[(Operand.tmp 71)], argTypes := #[22] }, _, _, _, _⟩ : Oper) = o := Option.some.inj ho
                  refine ask_plain rfl ?_
                  obtain ⟨gg, e1, hr2⟩ : ∃ g, b.eval (.tmp 71) = .slice (some ⟨g, 0, none⟩) 2 2 ∧ RdN w1 (some ⟨g, 0, none⟩) [F, b2] := hv 2 71 (by kernel_rfl) (by kernel_rfl) (of_decide_eq_true (by kernel_rfl))
                  have hcall := sum_any [F, b2] (some ⟨gg, 0, none⟩) 2 w1 hr2 (by simp) (by rw [HFB.out]; exact HFM.out)
                  rw [HFB.out, HZZ.out] at hcall
                  refine wp_call_fn 25 #[.tmp 71] #[22] rfl Try.f25 _ Try.func25 (by kernel_rfl) rfl #[.slice (some ⟨gg, 0, none⟩) 2 2] (by simp [e1]) (hcall.mono ?_)
                  rintro e w2 ⟨rfl, hb2⟩
                  exact ⟨_, rfl, hK _ _ rfl hb2⟩
                · obtain rfl : (⟨some 73, .load 31 (Operand.tmp 5), _, _, _, _⟩ : Oper) = o := Option.some.inj ho
                  refine ask_plain rfl ?_
                  have e1 : b.eval (.tmp 5) = .pointer (some ⟨g5, 0, none⟩) := (hstood 5 (by kernel_rfl)).trans rfl
                  exact wp_load_cells 31 (.tmp 5) rfl ⟨g5, 0, none⟩ e1 (U s) (.array 8 30) rfl (fun j v hj => by rw [add_zero_off, Joins.cell_of_block ((hbel.block _ (Array.getElem?_eq_some_iff.1 H5.out).1).trans H5.out)]; exact hj) Try.underlying31 (by rw [U_size, HSL.out]; kernel_rfl) (hK _ _ rfl (Below.refl _ _))
                · obtain rfl : (⟨some 74, .call { callee := (Callee.value (Operand.func 35)), args := #[(Operand.tmp 73)], argTypes := #[31] }, _, _, _, _⟩ : Oper) = o := Option.some.inj ho
                  refine ask_plain rfl ?_
                  have e1 : b.eval (.tmp 73) = .agg (U s) := hv 4 73 (by kernel_rfl) (by kernel_rfl) (of_decide_eq_true (by kernel_rfl))
                  have hcall := rbytes_any s HSL.out w1
                  rw [HDG.out] at hcall
                  refine wp_call_fn 35 #[.tmp 73] #[31] rfl Try.f35 _ Try.func35 (by kernel_rfl) rfl #[.agg (U s)] (by simp [e1]) (hcall.mono ?_)
                  rintro e w2 ⟨rfl, hb2⟩
                  exact ⟨_, rfl, hK _ _ rfl hb2⟩
                · obtain rfl : (⟨some 75, .binOp BinOp.eql 25 (Operand.tmp 72) (Operand.tmp 74) 25, _, _, _, _⟩ : Oper) = o := Option.some.inj ho
                  refine ask_plain rfl ?_
                  have e1 : b.eval (.tmp 72) = .agg (V8 Z) := hv 3 72 (by kernel_rfl) (by kernel_rfl) (of_decide_eq_true (by kernel_rfl))
                  have e2 : b.eval (.tmp 74) = .agg (V8 Z) := hv 5 74 (by kernel_rfl) (by kernel_rfl) (of_decide_eq_true (by kernel_rfl))
                  exact wp_val (.bool true) (by simp only [execOp, e1, e2]; simp [go_sem, HEQ.out]) (hK _ _ rfl (Below.refl _ _))
                · obtain rfl : (⟨some 76, .move (Operand.tmp 75), _, _, _, _⟩ : Oper) = o := Option.some.inj ho
                  refine ask_plain rfl ?_
                  have e : b.eval (.tmp 75) = .bool true := hv 6 75 (by kernel_rfl) (by kernel_rfl) (of_decide_eq_true (by kernel_rfl))
                  exact wp_val _ rfl (hK _ _ e (Below.refl _ _))
                · obtain rfl : (⟨some 77, .call { callee := (Callee.value (Operand.func 27)), args := #[], argTypes := #[] }, _, _, _, _⟩ : Oper) = o := Option.some.inj ho
                  have hgd := hv 7 76 (by kernel_rfl) (by kernel_rfl) (of_decide_eq_true (by kernel_rfl))
                  refine ask_yes 7 76 true rfl (by kernel_rfl) (by rw [hsize]; exact (of_decide_eq_true (by kernel_rfl))) hgd ?_
                  refine wp_call_fn 27 #[] #[] rfl Try.f27 _ Try.func27 (by kernel_rfl) rfl #[] (by simp) ((alive_any w1).mono ?_)
                  rintro e w2 ⟨rfl, hb2⟩
                  exact ⟨_, rfl, hK _ _ rfl hb2⟩
                · obtain rfl : (⟨some 78, .pick (Operand.tmp 76) (Operand.tmp 77) (Operand.const (Value.bool false)), _, _, _, _⟩ : Oper) = o := Option.some.inj ho
                  refine ask_plain rfl ?_
                  have e1 : b.eval (.tmp 76) = .bool true := hv 7 76 (by kernel_rfl) (by kernel_rfl) (of_decide_eq_true (by kernel_rfl))
                  have e2 : b.eval (.tmp 77) = .bool true := hv 8 77 (by kernel_rfl) (by kernel_rfl) (of_decide_eq_true (by kernel_rfl))
                  exact wp_val (.bool true) (by simp only [execOp, e1, e2]; rfl) (hK _ _ rfl (Below.refl _ _))
              · intro vs w3 hp hb3
                have v0 : vs 0 = v6 := hp 0 (by decide)
                have v1 : vs 1 = ov := hp 1 (by decide)
                have v3 : vs 3 = .agg (V8 Z) := hp 3 (by decide)
                have v4 : vs 4 = .agg (U s) := hp 4 (by decide)
                have v5 : vs 5 = .agg (V8 Z) := hp 5 (by decide)
                have v6' : vs 6 = .bool true := hp 6 (by decide)
                have v7 : vs 7 = .bool true := hp 7 (by decide)
                have v8 : vs 8 = .bool true := hp 8 (by decide)
                have v9 : vs 9 = .bool true := hp 9 (by decide)
                change wpList _ _ _ [_] _ _
                simp only [putD, Act.put, List.setIfInBounds_toArray, List.set_cons_zero, List.set_cons_succ, v0, v1, v3, v4, v5, v6', v7, v8, v9]
                generalize vs 2 = x2
                have HB3 := Lib.hid (HBW.out.trans (hb3.mono HBW.out.size))
                clear v0 v1 v3 v4 v5 v6' v7 v8 v9 hp hb3
                go_wp2
                go_ret
                exact ⟨rfl, HB3.out⟩
end Go.Proofs.Ytjaakhjfpigdfaa
