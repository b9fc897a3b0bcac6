import Derived.Test.YtjaakhjfpigdfaaP
/-! The document's Sum and Of. -/
namespace Go.Proofs.Ytjaakhjfpigdfaa
open Go.RowKit
set_option linter.unusedVariables false
set_option linter.unusedSimpArgs false
theorem zeros64b : V8 (List.replicate 64 0) = (#[.int .u8 0, .int .u8 0, .int .u8 0, .int .u8 0, .int .u8 0, .int .u8 0, .int .u8 0, .int .u8 0, .int .u8 0, .int .u8 0, .int .u8 0, .int .u8 0, .int .u8 0, .int .u8 0, .int .u8 0, .int .u8 0, .int .u8 0, .int .u8 0, .int .u8 0, .int .u8 0, .int .u8 0, .int .u8 0, .int .u8 0, .int .u8 0, .int .u8 0, .int .u8 0, .int .u8 0, .int .u8 0, .int .u8 0, .int .u8 0, .int .u8 0, .int .u8 0, .int .u8 0, .int .u8 0, .int .u8 0, .int .u8 0, .int .u8 0, .int .u8 0, .int .u8 0, .int .u8 0, .int .u8 0, .int .u8 0, .int .u8 0, .int .u8 0, .int .u8 0, .int .u8 0, .int .u8 0, .int .u8 0, .int .u8 0, .int .u8 0, .int .u8 0, .int .u8 0, .int .u8 0, .int .u8 0, .int .u8 0, .int .u8 0, .int .u8 0, .int .u8 0, .int .u8 0, .int .u8 0, .int .u8 0, .int .u8 0, .int .u8 0, .int .u8 0] : Array Value) := by kernel_rfl
def fillB (S : By) (k : Nat) : By := S.take k ++ List.replicate (64 - k) 0
theorem fillB_len (S : By) (k : Nat) (h : S.length = 64) (hk : k ≤ 64) : (fillB S k).length = 64 := by unfold fillB; rw [List.length_append, List.length_take, List.length_replicate]; omega
theorem fillB_step (S : By) (k : Nat) (h : S.length = 64) (hk : k < 64) : (fillB S k).set k (S.getD k 0) = fillB S (k + 1) := by
  apply List.ext_getElem?
  intro j
  unfold fillB
  rw [List.getElem?_set, List.length_append, List.length_take, List.length_replicate]
  by_cases e : k = j
  · subst e
    rw [if_pos rfl, if_pos (by omega), List.getElem?_append_left (by rw [List.length_take]; omega), List.getElem?_take, if_pos (by omega), List.getD_eq_getElem?_getD, List.getElem?_eq_getElem (by omega)]
    rfl
  · rw [if_neg e]
    by_cases h1 : j < k
    · rw [List.getElem?_append_left (by rw [List.length_take]; omega), List.getElem?_append_left (by rw [List.length_take]; omega), List.getElem?_take, List.getElem?_take, if_pos h1, if_pos (by omega)]
    · rw [List.getElem?_append_right (by rw [List.length_take]; omega), List.getElem?_append_right (by rw [List.length_take]; omega), List.getElem?_replicate, List.getElem?_replicate, List.length_take, List.length_take]
      by_cases h2 : j < 64
      · rw [if_pos (by omega), if_pos (by omega)]
      · rw [if_neg (by omega), if_neg (by omega)]
theorem fillB_all (S : By) (h : S.length = 64) : fillB S 64 = S := by unfold fillB; rw [List.take_of_length_le (by omega)]; simp
theorem padL_len (n : Nat) : (padL n).length ≤ 72 := by
  unfold padL; rw [List.length_append, headB_len, tailB_len]; have : zN n < 64 := Nat.mod_lt _ (by decide); omega
set_option maxRecDepth 100000 in
set_option maxHeartbeats 8000000 in
theorem rsum_any (ps : List By) (A : Option Addr) (c : Nat) (w : World) (hr : RdN w A ps) (hc : ps.length ≤ c) (hlen : ps.flatten.length ≤ 140737488355000) : Calls Try.prog 26 #[.slice A ps.length c] w fun e w' => e = .returned (.agg (V8 (sumL ps.flatten))) ∧ Below w.heap.size w w' := by
  have hZ := Lib.hid zeros32
  have hZ64 := Lib.hid zeros64b
  have hpl := hr.1
  have z1 : (w.alloc (.cells (V8 (List.replicate 32 0)) 24)).heap[w.heap.size]? = some (.cells (V8 (List.replicate 32 0)) 24 (0, 0)) := heap_new _ _ _ rfl
  have b1 : Below w.heap.size w (w.alloc (.cells (V8 (List.replicate 32 0)) 24)) := below_alloc1 _ _
  have e1 : (w.alloc (.cells (V8 (List.replicate 32 0)) 24)).heap.size = w.heap.size + 1 := size_alloc _ _
  obtain ⟨W1, hW1⟩ : ∃ W, w.alloc (.cells (V8 (List.replicate 32 0)) 24) = W := ⟨_, rfl⟩
  rw [hW1] at z1 b1 e1
  replace hr := Lib.hid (hr.below b1)
  replace z1 := Lib.hid z1
  have HW1 := Lib.hid hW1
  replace b1 := Lib.hid b1
  have E1 := Lib.hid e1
  clear hW1 e1
  go_enter Try.func26, Try.ntmps26
  go_wp2
  rw [← hZ.out, HW1.out]
  go_loopg [3, 4] ps.length (fun gk vv iv wr => ∃ i : Nat, gk = ps.length - i ∧ i ≤ ps.length ∧ iv = .int .i64 (i : Int) ∧ wr.ownsRow W1.heap.size 5 1 vv ((ps.take i).flatten.length) (bytesV (ps.take i).flatten) ∧ Below W1.heap.size W1 wr)
  case atStart => exact ⟨0, rfl, by omega, rfl, ⟨rfl, .inl ⟨rfl, rfl⟩⟩, Below.refl _ _⟩
  case round =>
    obtain ⟨i, rfl, hi, rfl, hown, hbel⟩ := hrel
    have hsz := hbel.size
    by_cases hlt : i < ps.length
    · have hfl := flat_take ps i hlt
      have hle := flat_le ps (i + 1)
      obtain ⟨ad, v, rfl, hcell, hE⟩ := hr.out.at' i hlt
      obtain ⟨p, hp⟩ : ∃ p, ps.getD i [] = p := ⟨_, rfl⟩
      rw [hp] at hE hfl
      obtain ⟨B, b, rfl, hbl, hbr, hbn⟩ := hE
      have q0 : wr.cell? (ad.add i) = some (.slice B p.length b) := (hbel.cell (World.block_lt_of_cell? _ _ hcell)).trans hcell
      have hbr2 : RdB wr B p := hbr.below hbel (fun _ _ h => h)
      rw [hfl, List.length_append] at hle
      have hlenp : (ps.take i).flatten.length + p.length ≤ 140737488355328 := by omega
      have HFL := Lib.hid hfl
      have HO := Lib.hid hown
      have HB := Lib.hid hbel
      have HR := Lib.hid hbr2
      clear hfl hown hbel hbr2 hbr hp hcell hle
      go_wp2_with (first | (at_builtin; refine wpList_append_bytes rfl (.tmp 15) (.tmp 19) rfl W1.heap.size u3 _ _ rfl HO.out B b p rfl HR.out hbn hbl hlenp hsz ?_; intro v' w3 hown3 hgrow _; have HB3 := Lib.hid (HB.out.grown hgrow hsz (own_base' HO.out)); have HO3 := Lib.hid hown3; clear hown3 hgrow) | fail)
      go_roundg (ps.length - (i + 1))
      case measure => omega
      case rel =>
        have ho := HO3.out
        rw [← bytesV_app, ← HFL.out, ← List.length_append, ← HFL.out] at ho
        exact ⟨i + 1, rfl, by omega, by go_num, ho, HB3.out⟩
    · obtain rfl : i = ps.length := by omega
      rw [List.take_length] at hown
      obtain ⟨F, hF⟩ : ∃ F, ps.flatten = F := ⟨_, rfl⟩
      rw [hF] at hown hlen
      have HF := Lib.hid hF
      have RP := Lib.hid (rpad_any F.length (by omega) wr)
      obtain ⟨FA, fc, rfl, hfc, hfr, hfn⟩ := own_bytes hown
      have HO := Lib.hid hown
      have HB := Lib.hid hbel
      have hlI : (F.length : Int) < 18446744073709551616 := by omega
      clear hown hbel hF hfr hfn
      go_wp2_with fail
      refine RP.out.mono ?_
      rintro e w2 ⟨v2, rfl, hown2, hb2⟩
      have HO2 := Lib.hid (own_below HO.out hb2)
      have HB2 := Lib.hid (HB.out.trans (hb2.mono hsz))
      have hsz2 := HB2.out.size
      have hpl2 := padL_len F.length
      obtain ⟨D, hD⟩ : ∃ D, padL F.length = D := ⟨_, rfl⟩
      rw [hD] at hown2 hpl2
      obtain ⟨A2, c2, rfl, hc2, hr2, hn2⟩ := own_bytes hown2
      have HR2 := Lib.hid hr2
      have HDD := Lib.hid hD
      clear RP hown2 hb2 hr2 hD HO HB hlI
      go_wp2_with (first | (at_builtin; refine wpList_append_bytes rfl (.tmp 21) (.tmp 25) rfl W1.heap.size _ _ _ rfl HO2.out A2 c2 D rfl HR2.out hn2 hc2 (by omega) hsz2 ?_; intro v' w3 hown3 hgrow _; have HB3 := Lib.hid (HB2.out.grown hgrow hsz2 (own_base' HO2.out)); have HO3 := Lib.hid hown3; clear hown3 hgrow) | fail)
      obtain ⟨T, hT⟩ : ∃ T, F ++ D = T := ⟨_, rfl⟩
      have hTl : T.length = F.length + D.length := by rw [← hT, List.length_append]
      have HT := Lib.hid hT
      have HO4 : Hid (w3.ownsRow W1.heap.size 5 1 v' T.length (bytesV T)) := Lib.hid (by have := HO3.out; rw [← bytesV_app, ← hTl, hT] at this; exact this)
      obtain ⟨TA, tc, rfl, htc, htr, _⟩ := own_bytes HO4.out
      have HTR := Lib.hid htr
      have hTm : T.length ≤ 140737488355328 := by omega
      have h3 := HB3.out.size
      clear HO3 HO4 HO2 HB2 HR2 hT hTl htr hsz2
      have HS0 := Lib.hid (show (Try.prog.info? 31).map (·.size) = some (U startL).size by rw [U_size, startL_len]; kernel_rfl)
      go_upto_region 8 with (first | (go_at_call 33; refine (rstart_any _).mono ?_; rintro e w4 ⟨rfl, rfl⟩) | ((with_reducible show wpList _ _ _ (⟨none, .store 31 (.tmp 5) (.tmp 27), _, _, _, _⟩ :: _) _ _); refine wpList_store_row rfl 31 (.tmp 5) (.tmp 27) rfl (w3.heap.size + 1) (U startL) rfl rfl 31 _ (heap_new _ _ _ (by simp)) HS0.out (by rw [U_size, startL_len]; rfl) (U_one _) ?_))
      have v4 : RdB (w3.alloc (.cells (U startL) 31)) TA T := HTR.out.alloc' _
      have s4 : (w3.alloc (.cells (U startL) 31)).heap.size = w3.heap.size + 1 := size_alloc _ _
      have b4 : Below W1.heap.size W1 (w3.alloc (.cells (U startL) 31)) := HB3.out.alloc h3 _
      generalize hW5 : (World.setRow _ _ _) = W5
      have b5 : Below (w3.heap.size + 1) (w3.alloc (.cells (U startL) 31)) W5 := by
        rw [← hW5]
        exact below_setRow _ _ ((Below.refl _ _).alloc (by simp) _) (Nat.le_refl _)
      have c5 : W5.heap[w3.heap.size + 1]? = some (.cells (U startL) 31 (0, 0)) := by rw [← hW5]; exact setRow_heap _ _ _ _ _ _ (heap_new _ _ _ (by simp))
      obtain ⟨V4, hV4⟩ : ∃ V, w3.alloc (.cells (U startL) 31) = V := ⟨_, rfl⟩
      rw [hV4] at v4 s4 b4 b5
      obtain ⟨g5, hg5⟩ : ∃ g, w3.heap.size + 1 = g := ⟨_, rfl⟩
      rw [hg5] at s4 b5 c5 ⊢
      have hgW : W1.heap.size ≤ g5 := by omega
      replace v4 := Lib.hid v4
      have S4 := Lib.hid s4
      replace b4 := Lib.hid b4
      replace b5 := Lib.hid b5
      replace c5 := Lib.hid c5
      clear hW5 hV4 hg5 s4 HB3 HTR h3 hlen hi hlt hsz HS0
      simp only [Act.put]
      go_wp2
      go_loopg [6] (T.length / 64) (fun gk iv wr => ∃ j : Nat, gk = T.length / 64 - j ∧ 64 * j ≤ T.length ∧ iv = .int .i64 (64 * (j : Int)) ∧ wr.heap[g5]? = some (.cells (U (stF T j)) 31) ∧ Below g5 V4 wr)
      case atStart => exact ⟨0, rfl, by omega, rfl, c5.out, b5.out⟩
      case round =>
        clear c5 b5
        obtain ⟨j, rfl, hj, rfl, hc5, hbel⟩ := hrel
        have hs5 := hbel.size
        by_cases hlt : 64 * j + 64 ≤ T.length
        · have hI : 64 * (j : Int) + 64 ≤ (T.length : Int) := by omega
          have hgr : g5 < wr.heap.size := (Array.getElem?_eq_some_iff.1 hc5).1
          have hbl := blk_len T j (by omega)
          have hslen := stF_len T j
          have hnx : stF T (j + 1) = stepL (stF T j) (blk T j) := rfl
          have hbk : ∀ k, k < 64 → (blk T j).getD k 0 = T.getD (64 * j + k) 0 := by
            intro k hk
            unfold blk
            simp [List.getD_eq_getElem?_getD, List.getElem?_take, hk]
          obtain ⟨S, hS⟩ : ∃ S, blk T j = S := ⟨_, rfl⟩
          obtain ⟨s, hs⟩ : ∃ s, stF T j = s := ⟨_, rfl⟩
          rw [hS] at hbl hnx hbk
          rw [hs] at hslen hnx hc5
          have HC5 := Lib.hid (heap_old (.cells (V8 (List.replicate 64 0)) 32) trivial hc5)
          have HB := Lib.hid (hbel.alloc (Nat.le_of_lt hgr) (.cells (V8 (List.replicate 64 0)) 32))
          have HC7 := Lib.hid (heap_new wr (.cells (V8 (List.replicate 64 0)) 32) wr.heap.size rfl)
          have HNX := Lib.hid hnx
          have HBK := Lib.hid hbk
          have HBL := Lib.hid hbl
          have HSL := Lib.hid hslen
          clear hc5 hbel hnx hbk hbl hslen hS hs
          go_wp2
          rw [← hZ64.out]
          obtain ⟨W7, hW7⟩ : ∃ W, wr.alloc (.cells (V8 (List.replicate 64 0)) 32) = W := ⟨_, rfl⟩
          obtain ⟨g7, hg7⟩ : ∃ g, wr.heap.size = g := ⟨_, rfl⟩
          rw [hW7] at HC5 HB HC7 ⊢
          rw [hg7] at HC7 hgr hs5 ⊢
          clear hW7 hg7
          go_loopg [8] 64 (fun gk iv wq => ∃ k : Nat, gk = 64 - k ∧ k ≤ 64 ∧ iv = .int .i64 (k : Int) ∧ wq.heap[g7]? = some (.cells (V8 (fillB S k)) 32) ∧ wq.heap[g5]? = some (.cells (U s) 31) ∧ Below g5 V4 wq)
          case atStart => exact ⟨0, rfl, by omega, rfl, by simpa [fillB] using HC7.out, HC5.out, HB.out⟩
          case round =>
            clear HC5 HB HC7
            obtain ⟨k, rfl, hk, rfl, hq7, hq5, hbel⟩ := hrel
            by_cases hlk : k < 64
            · obtain ⟨ad, rfl, hcell⟩ := RdB.at' v4.out (64 * j + k) (by omega)
              have hx : T[64 * j + k] = S.getD k 0 := by
                rw [HBK.out k hlk, List.getD_eq_getElem?_getD, List.getElem?_eq_getElem (by omega)]; rfl
              rw [hx] at hcell
              have hfl := fillB_len S k HBL.out hk
              have hfs := fillB_step S k HBL.out hlk
              have q0 : wr.cell? (ad.add (64 * j + k)) = some (.int .u8 ((S.getD k 0).toNat : Int)) := by
                have hb2 : Below V4.heap.size V4 wr := by rw [S4.out]; exact hbel
                exact (hb2.cell (World.block_lt_of_cell? _ _ hcell)).trans hcell
              have q7 : wr.cell? ⟨g7, k, none⟩ = some (.int .u8 (((fillB S k).getD k 0).toNat : Int)) := by rw [Joins.cell_of_block hq7]; exact V8_at _ k (by omega)
              have f7 := fr_of hq7 k
              obtain ⟨x, hx2⟩ : ∃ x, S.getD k 0 = x := ⟨_, rfl⟩
              rw [hx2] at q0 hfs
              have hst7 := heap_setCell hq7 k (.int .u8 (x.toNat : Int))
              rw [V8_set, hfs] at hst7
              have H7 := Lib.hid hst7
              have H5 := Lib.hid (heap_set_other (g := g7) (i := k) (u := .int .u8 (x.toNat : Int)) hq5 (by omega))
              have HB := Lib.hid (hbel.setCell (p := ⟨g7, k, none⟩) (by simp; omega) (.int .u8 (x.toNat : Int)))
              have hkI : (k : Int) < 64 := by omega
              have m1 : (64 * (j : Int) + (k : Int)).toNat = 64 * j + k := by omega
              have l1 : 64 * (j : Int) + (k : Int) < (T.length : Int) := by omega
              have l2 : 0 ≤ 64 * (j : Int) + (k : Int) := by omega
              have l3 : 64 * (j : Int) + (k : Int) ≤ 140737488355328 := by omega
              clear hcell hx hfl hfs hx2 hst7 hq7 hq5 hbel
              go_wp2
              go_roundg (64 - (k + 1))
              case measure => omega
              case rel => exact ⟨k + 1, rfl, by omega, by go_num, H7.out, H5.out, HB.out⟩
            · obtain rfl : k = 64 := by omega
              rw [fillB_all S HBL.out] at hq7
              have H7 := Lib.hid hq7
              have H5 := Lib.hid hq5
              have HB := Lib.hid hbel
              have HZS := Lib.hid (show (Try.prog.info? 31).map (·.size) = some (U s).size by rw [U_size, HSL.out]; kernel_rfl)
              have HZB := Lib.hid (show (Try.prog.info? 32).map (·.size) = some (V8 S).size by rw [V8_size, HBL.out]; kernel_rfl)
              have hnl := stepL_len s S HSL.out
              have RS := Lib.hid (rstep_any s HSL.out S HBL.out wr)
              obtain ⟨s', hs'⟩ : ∃ s', stepL s S = s' := ⟨_, rfl⟩
              rw [hs'] at hnl RS HNX
              have HZN := Lib.hid (show (Try.prog.info? 31).map (·.size) = some (U s').size by rw [U_size, hnl]; kernel_rfl)
              have HZE := Lib.hid (show (U s).size = (U s').size by rw [U_size, U_size, hnl, HSL.out])
              clear hq7 hq5 hbel hnl hs'
              go_wp2_with (first | ((with_reducible show wpList _ _ _ (⟨some 47, .load 31 (.tmp 5), _, _, _, _⟩ :: _) _ _); refine wpList_load_row rfl 31 (.tmp 5) rfl g5 rfl 31 (U s) _ H5.out Try.underlying31 rfl HZS.out ?_) | ((with_reducible show wpList _ _ _ (⟨some 48, .load 32 (.tmp 7), _, _, _, _⟩ :: _) _ _); refine wpList_load_row rfl 32 (.tmp 7) rfl g7 rfl 32 (V8 S) _ H7.out Try.underlying32 rfl HZB.out ?_) | (go_at_call 29; refine RS.out.mono ?_; rintro e w9 ⟨rfl, hb9⟩; have H9 := Lib.hid (keepH hb9 H5.out); have HB9 := Lib.hid (HB.out.trans (hb9.mono (by have := (Array.getElem?_eq_some_iff.1 H5.out).1; omega))); clear hb9) | ((with_reducible show wpList _ _ _ (⟨none, .store 31 (.tmp 5) (.tmp 49), _, _, _, _⟩ :: _) _ _); refine wpList_store_row rfl 31 (.tmp 5) (.tmp 49) rfl g5 (U s') rfl rfl 31 (U s) H9.out HZN.out HZE.out (U_one _) ?_) | fail)
              go_roundg (T.length / 64 - (j + 1))
              case measure => omega
              case rel => exact ⟨j + 1, rfl, by omega, by congr 1, by rw [HNX.out]; exact setRow_heap _ _ _ _ _ _ H9.out, below_setRow _ _ HB9.out (Nat.le_refl _)⟩
        · have hI : ¬ 64 * (j : Int) + 64 ≤ (T.length : Int) := by omega
          have ej : j = nb T := by unfold nb; omega
          have hslen := stF_len T j
          have hsum : digL (stF T j) = sumL ps.flatten := by unfold sumL; rw [HF.out, HDD.out, HT.out, ej]; rfl
          obtain ⟨s, hs⟩ : ∃ s, stF T j = s := ⟨_, rfl⟩
          rw [hs] at hslen hsum hc5
          have hZl := sumL_len ps.flatten
          have RB := rbytes_any s hslen wr
          rw [hsum] at RB
          obtain ⟨Z, hZ2⟩ : ∃ Z, sumL ps.flatten = Z := ⟨_, rfl⟩
          rw [hZ2] at hZl RB
          have HSZ := Lib.hid (show (Try.prog.info? 24).map (·.size) = some (V8 Z).size by rw [V8_size, hZl]; kernel_rfl)
          have HZ2 := Lib.hid (show (V8 (List.replicate 32 0)).size = (V8 Z).size by rw [V8_size, V8_size, hZl]; rfl)
          have HZS := Lib.hid (show (Try.prog.info? 31).map (·.size) = some (U s).size by rw [U_size, hslen]; kernel_rfl)
          have HZZ := Lib.hid hZ2
          have H5 := Lib.hid hc5
          have b4g : Below W1.heap.size V4 wr := hbel.mono hgW
          have HBw := Lib.hid (b4.out.trans b4g)
          replace RB := Lib.hid RB
          clear hc5 hbel hslen hsum hs hZl hZ2 ej b4g hZ hZ64
          go_wp2_with (first | ((with_reducible show wpList _ _ _ (⟨some 50, .load 31 (.tmp 5), _, _, _, _⟩ :: _) _ _); refine wpList_load_row rfl 31 (.tmp 5) rfl g5 rfl 31 (U s) _ H5.out Try.underlying31 rfl HZS.out ?_) | (go_at_call 35; refine RB.out.mono ?_; rintro e w9 ⟨rfl, hb9⟩; have HW9 := Lib.hid (HBw.out.trans (hb9.mono HBw.out.size)); clear hb9; have HZ9 := Lib.hid (below_heap HW9.out z1.out (by have := E1.out; omega))) | ((with_reducible show wpList _ _ _ (⟨none, .store 24 (.tmp 2) (.tmp 51), _, _, _, _⟩ :: _) _ _); refine wpList_store_row rfl 24 (.tmp 2) (.tmp 51) rfl w.heap.size (V8 Z) rfl rfl 24 _ HZ9.out HSZ.out HZ2.out (V8_one _) ?_) | fail)
          have gz := setRow_heap w9 w.heap.size _ (V8 Z) _ _ HZ9.out
          have hrv := run_loadVar_row (P := Try.prog) (w9.setRow w.heap.size (V8 Z)) w.heap.size 24 24 (V8 Z) (0, 0) _ gz Try.underlying24 rfl HSZ.out
          have bw9 : Below w.heap.size w w9 := b1.out.trans (HW9.out.mono (by have := E1.out; omega))
          exact bodyPost_ret (v := .agg (V8 Z)) (by simp [results, Try.results26, asAddr, hrv, Act.put]) rfl ⟨by rw [HZZ.out], below_setRow _ _ bw9 (Nat.le_refl _)⟩
set_option maxRecDepth 100000 in
set_option maxHeartbeats 4000000 in
theorem rof_any (p : By) (v : Value) (w : World) (h : EqN w p v) (hlen : p.length ≤ 140737488355000) : Calls Try.prog 34 #[v] w fun e w' => e = .returned (.agg (V8 (sumL p))) ∧ Below w.heap.size w w' := by
  obtain ⟨A, n, c, rfl⟩ : ∃ A n c, v = .slice A n c := by obtain ⟨A, c, e, _⟩ := h; exact ⟨A, _, c, e⟩
  have hZ := Lib.hid zeros32
  have z1 : ((w.alloc (.cells (V8 (List.replicate 32 0)) 24)).alloc (.cells #[.slice A n c] 35)).heap[w.heap.size]? = some (.cells (V8 (List.replicate 32 0)) 24 (0, 0)) := heap_old _ trivial (heap_new _ _ _ rfl)
  have b1 : Below w.heap.size w ((w.alloc (.cells (V8 (List.replicate 32 0)) 24)).alloc (.cells #[.slice A n c] 35)) := (below_alloc1 _ _).alloc (by simp) _
  have hr := RdN.new1 (w.alloc (.cells (V8 (List.replicate 32 0)) 24)) p (.slice A n c) 35 (0, 0) (w.heap.size + 1) (by simp) (h.alloc _)
  have RS := rsum_any [p] _ 1 _ hr (by simp) (by simpa using hlen)
  rw [show [p].flatten = p by simp] at RS
  obtain ⟨W, hW⟩ : ∃ W, ((w.alloc (.cells (V8 (List.replicate 32 0)) 24)).alloc (.cells #[.slice A n c] 35)) = W := ⟨_, rfl⟩
  rw [hW] at z1 b1 RS
  have HW := Lib.hid hW
  replace RS := Lib.hid RS
  replace z1 := Lib.hid z1
  replace b1 := Lib.hid b1
  have hZl := sumL_len p
  obtain ⟨Z, hZ2⟩ : ∃ Z, sumL p = Z := ⟨_, rfl⟩
  rw [hZ2] at hZl RS
  have HSZ := Lib.hid (show (Try.prog.info? 24).map (·.size) = some (V8 Z).size by rw [V8_size, hZl]; kernel_rfl)
  have HZ2 := Lib.hid (show (V8 (List.replicate 32 0)).size = (V8 Z).size by rw [V8_size, V8_size, hZl]; rfl)
  have HZZ := Lib.hid hZ2
  clear hW hr hZl hZ2 h
  go_enter Try.func34, Try.ntmps34
  go_wp2_with fail
  rw [← hZ.out, HW.out]
  refine RS.out.mono ?_
  rintro e w9 ⟨rfl, hb9⟩
  have HZ9 := Lib.hid (keepH hb9 z1.out)
  have HW9 := Lib.hid (b1.out.trans (hb9.mono b1.out.size))
  clear RS hb9 z1 b1 HW hZ
  go_wp2_with ((with_reducible show wpList _ _ _ (⟨none, .store 24 (.tmp 2) (.tmp 5), _, _, _, _⟩ :: _) _ _); refine wpList_store_row rfl 24 (.tmp 2) (.tmp 5) rfl w.heap.size (V8 Z) rfl rfl 24 _ HZ9.out HSZ.out HZ2.out (V8_one _) ?_)
  have gz := setRow_heap w9 w.heap.size _ (V8 Z) _ _ HZ9.out
  have hrv := run_loadVar_row (P := Try.prog) (w9.setRow w.heap.size (V8 Z)) w.heap.size 24 24 (V8 Z) (0, 0) _ gz Try.underlying24 rfl HSZ.out
  exact bodyPost_ret (v := .agg (V8 Z)) (by simp [results, Try.results34, asAddr, hrv, Act.put]) rfl ⟨by rw [HZZ.out], below_setRow _ _ HW9.out (Nat.le_refl _)⟩
end Go.Proofs.Ytjaakhjfpigdfaa
