import Derived.Test.YtglbcejcibohpaaT
/-! The document's Claim, Take. -/
namespace Go.Proofs.Ytglbcejcibohpaa
open Go.RowKit
set_option linter.unusedVariables false
set_option linter.unusedSimpArgs false
theorem memB_false {l : List Ext} {k : Int} (h : ¬ memE l k) : memB l k = false := by
  cases hb : memB l k with
  | false => rfl
  | true => exact absurd ((memB_iff l k).1 hb) h
theorem memB_true {l : List Ext} {k : Int} (h : memE l k) : memB l k = true := (memB_iff l k).2 h
theorem claim_row {n : Nat} {l : List Ext} {e : Ext} (h : freeE n l) (he : liesE n e) (hh : hasE l e) : rowE (turnB (bitsT n l) e.1 e.2 false) = withoutE l e := by
  refine row_of n _ _ (without_free he.2.1 h) (by rw [turnB_len, bitsT_len]) fun k hk => ?_
  have h1 := bitsT_at n l k hk
  have hk' : k < (bitsT n l).length := by rw [bitsT_len]; exact hk
  rw [List.getElem?_eq_getElem hk'] at h1
  rw [turnB_at _ _ _ _ _ hk', Option.some.inj h1]
  congr 1
  have hm := mem_without h he.2.1 hh (k : Int)
  by_cases h2 : e.1 ≤ (k : Int) ∧ (k : Int) < e.1 + e.2
  · rw [if_pos h2, memB_false]
    rw [hm]
    exact fun h3 => h3.2 h2
  · rw [if_neg h2]
    apply bool_eq
    rw [memB_iff, memB_iff, hm]
    exact ⟨fun h3 => ⟨h3, h2⟩, fun h3 => h3.1⟩
theorem Bes.one {p : Nat} {a b : World} (h : Bes p p a b) : Bes p p a b := h
set_option maxRecDepth 100000 in
set_option maxHeartbeats 4000000 in
theorem rclaim_any (b : Int) (l : List Ext) (A : Option Addr) (cap : Nat) (a n : Int) (w : World) (hb : I64 b) (ha : I64 a) (hn : I64 n) (hr : RdE w A l) (hl : l.length ≤ cap) :
    Calls Try.prog 28 #[.int .i64 b, .slice A l.length cap, eV a n] w fun e w' => ∃ v, e = .returned (.tuple #[v, .int .i64 (claimC b l (a, n)).2]) ∧ w'.ownsRow w.heap.size 25 2 v (claimC b l (a, n)).1.length (extsV (claimC b l (a, n)).1) ∧ Below w.heap.size w w' := by
  have b0 : Below w.heap.size w (w.alloc (eO a n)) := (Below.refl _ _).alloc (Nat.le_refl _) _
  have CK := rcheck_any b l A cap (w.alloc (eO a n)) hb (hr.below b0) hl
  have HR := Lib.hid hr
  have hm := hr.1
  have R0 := Lib.hid (heap_new w (eO a n) w.heap.size rfl)
  clear hr
  by_cases hc : checkE b l = 0
  · have hb' := (check_zero hc).1
    have hf := (check_zero hc).2
    rw [hc] at CK
    have HF := Lib.hid hf
    have LI := fun w => rlies_any b a n w hb' ha hn
    replace CK := Lib.hid CK
    by_cases hlies : liesE b (a, n)
    · have hlies' := hlies
      unfold liesE at hlies'
      simp only at hlies'
      replace LI : Hid (∀ w : World, Calls Try.prog 32 #[.int .i64 b, eV a n] w fun e w' => e = .returned (.bool true) ∧ w.alloc (eO a n) = w') := fun w => by have := LI w; rw [lies_yes hlies'] at this; exact this
      have HX := Lib.hid (fun w' (h : Below w.heap.size w w') => rhas_any l A cap a n w' (HR.out.below h) hl ha hn)
      cases hh : hasB l a n with
      | false =>
        have eC : claimC b l (a, n) = ([], 102) := by unfold claimC; rw [if_pos hc, if_pos hlies, if_neg (by rw [hh]; decide)]
        rw [eC]
        rw [hh] at HX
        simp only
        clear eC hlies hlies' hc hf hh
        go_enter Try.func28, Try.ntmps28
        go_wp2_with (first | (go_at_call 15; refine CK.out.mono ?_; rintro e w1 ⟨rfl, bb⟩; have r0 := keepH bb R0.out; have k0 : w1.cell? ⟨w.heap.size, 0, none⟩ = some (.int .i64 a) := (by rw [Joins.cell_of_block r0]; rfl); have k1 : w1.cell? ⟨w.heap.size, 1, none⟩ = some (.int .i64 n) := (by rw [Joins.cell_of_block r0]; rfl); have k0' := cell_old (eO a n) k0; have k1' := cell_old (eO a n) k1; have r1 := Lib.hid (heap_old (eO a n) trivial r0); have b01 : Below w.heap.size w (w1.alloc (eO a n)) := (b0.trans (bb.mono (by simp))).alloc (b0.trans (bb.mono (by simp))).size _; clear bb r0) | (go_at_call 32; refine (LI.out _).mono ?_; rintro e w' ⟨rfl, rfl⟩) | (go_at_call 17; refine (HX.out _ b01).mono ?_; rintro e w2 ⟨rfl, b12⟩; have r2 := Lib.hid (keepH b12 r1.out); have k0 : w2.cell? ⟨w.heap.size, 0, none⟩ = some (.int .i64 a) := (by rw [Joins.cell_of_block r2.out]; rfl); have k1 : w2.cell? ⟨w.heap.size, 1, none⟩ = some (.int .i64 n) := (by rw [Joins.cell_of_block r2.out]; rfl); have b02 : Below w.heap.size w w2 := b01.trans (b12.mono b01.size); have z2 : w.heap.size < w2.heap.size := World.block_lt_of_cell? w2 _ k0; clear b12) | fail)
        go_ret2
        exact ⟨_, rfl, World.ownsRow_nil _ _ _ _, b02⟩
      | true =>
        have eC : claimC b l (a, n) = (withoutE l (a, n), 0) := by unfold claimC; rw [if_pos hc, if_pos hlies, if_pos hh]
        rw [eC]
        rw [hh] at HX
        simp only
        have h3 := (of_decide_eq_true hh).2.2
        obtain ⟨q1, q2, q3⟩ := hlies'
        have b1 := hb'.1
        have b2 := hb'.2
        obtain ⟨N, rfl⟩ := Int.eq_ofNat_of_zero_le b1
        have hrow := claim_row hf hlies h3
        have BI := Lib.hid (fun w' (h : Below w.heap.size w w') => bits_any N l A cap w' (by omega) HF.out (HR.out.below h) hl)
        obtain ⟨X, hX⟩ : ∃ X, bitsT N l = X := ⟨_, rfl⟩
        have hXl : X.length = N := by rw [← hX]; exact bitsT_len N l
        rw [hX] at BI hrow
        have TU := Lib.hid (fun w' g (h : w'.heap[g]? = some (.cells (bv X) 4)) => turn_any X g N a n false w' hXl (by omega) q1 (by omega) q3 h)
        have RO := Lib.hid (fun w' g (h : w'.heap[g]? = some (.cells (bv (turnB X a n false)) 4)) => row_any (turnB X a n false) g N w' (by rw [turnB_len]; exact hXl) (by omega) h)
        simp only at hrow
        rw [hrow] at RO
        clear eC hlies hc hf hh hX hrow h3 hb'
        go_enter Try.func28, Try.ntmps28
        go_wp2_with (first | (go_at_call 15; refine CK.out.mono ?_; rintro e w1 ⟨rfl, bb⟩; have r0 := keepH bb R0.out; have k0 : w1.cell? ⟨w.heap.size, 0, none⟩ = some (.int .i64 a) := (by rw [Joins.cell_of_block r0]; rfl); have k1 : w1.cell? ⟨w.heap.size, 1, none⟩ = some (.int .i64 n) := (by rw [Joins.cell_of_block r0]; rfl); have k0' := cell_old (eO a n) k0; have k1' := cell_old (eO a n) k1; have r1 := Lib.hid (heap_old (eO a n) trivial r0); have b01 : Below w.heap.size w (w1.alloc (eO a n)) := (b0.trans (bb.mono (by simp))).alloc (b0.trans (bb.mono (by simp))).size _; clear bb r0) | (go_at_call 32; refine (LI.out _).mono ?_; rintro e w' ⟨rfl, rfl⟩) | (go_at_call 17; refine (HX.out _ b01).mono ?_; rintro e w2 ⟨rfl, b12⟩; have r2 := Lib.hid (keepH b12 r1.out); have k0 : w2.cell? ⟨w.heap.size, 0, none⟩ = some (.int .i64 a) := (by rw [Joins.cell_of_block r2.out]; rfl); have k1 : w2.cell? ⟨w.heap.size, 1, none⟩ = some (.int .i64 n) := (by rw [Joins.cell_of_block r2.out]; rfl); have b02 : Below w.heap.size w w2 := b01.trans (b12.mono b01.size); have z2 : w.heap.size < w2.heap.size := World.block_lt_of_cell? w2 _ k0; clear b12) | fail)
        clear CK LI HX b01
        go_region_held3 (fun w' => w'.cell? ⟨w.heap.size, 0, none⟩ = some (.int .i64 a) ∧ w'.cell? ⟨w.heap.size, 1, none⟩ = some (.int .i64 n)) (with_reducible repeat' first | assumption | apply And.intro | apply keepA | apply keepD | refine keepB (by assumption) ?_)
          (first | (go_at_call 40; refine (BI.out _ (by first | exact b02 | exact b02.drew)).mono ?_; rintro e w' ⟨rfl, rfl⟩) | (go_at_call 39; refine (TU.out _ w2.heap.size (by exact heap_new w2 _ _ rfl)).mono ?_; rintro e w4 ⟨rfl, hh4, bs⟩; have r4 := (bs.block w.heap.size (by simp; omega) (by simp; omega) (by simp; omega)).trans (heap_old _ trivial r2.out); have k04 : w4.cell? ⟨w.heap.size, 0, none⟩ = some (.int .i64 a) := (by rw [Joins.cell_of_block r4]; rfl); have k14 : w4.cell? ⟨w.heap.size, 1, none⟩ = some (.int .i64 n) := (by rw [Joins.cell_of_block r4]; rfl)) | (go_at_call 38; refine (RO.out _ _ hh4).mono ?_; rintro e w5 ⟨v, rfl, hv, b45⟩; have HV := Lib.hid hv))
        have bz : Below w.heap.size w w4 := Bes.below (b02.alloc b02.size _).drew bs (by omega) (by omega) (b02.alloc b02.size _).drew.size
        clear hv r4 bs hh4
        go_wp2
        go_ret2
        exact ⟨_, rfl, own_up HV.out bz.size, bz.trans (b45.mono bz.size)⟩
    · replace LI : Hid (∀ w : World, Calls Try.prog 32 #[.int .i64 b, eV a n] w fun e w' => e = .returned (.bool false) ∧ w.alloc (eO a n) = w') := fun w => by have := LI w; rw [lies_no hlies] at this; exact this
      have eC : claimC b l (a, n) = ([], 100) := by unfold claimC; rw [if_pos hc, if_neg hlies]
      rw [eC]
      simp only
      clear eC hlies hc hf
      go_enter Try.func28, Try.ntmps28
      go_wp2_with (first | (go_at_call 15; refine CK.out.mono ?_; rintro e w1 ⟨rfl, bb⟩; have r0 := keepH bb R0.out; have k0 : w1.cell? ⟨w.heap.size, 0, none⟩ = some (.int .i64 a) := (by rw [Joins.cell_of_block r0]; rfl); have k1 : w1.cell? ⟨w.heap.size, 1, none⟩ = some (.int .i64 n) := (by rw [Joins.cell_of_block r0]; rfl); have k0' := cell_old (eO a n) k0; have k1' := cell_old (eO a n) k1; have r1 := Lib.hid (heap_old (eO a n) trivial r0); have b01 : Below w.heap.size w (w1.alloc (eO a n)) := (b0.trans (bb.mono (by simp))).alloc (b0.trans (bb.mono (by simp))).size _; clear bb r0) | (go_at_call 32; refine (LI.out _).mono ?_; rintro e w' ⟨rfl, rfl⟩) | fail)
      go_ret2
      exact ⟨_, rfl, World.ownsRow_nil _ _ _ _, b01⟩
  · have eC : claimC b l (a, n) = ([], checkE b l) := by unfold claimC; rw [if_neg hc]
    rw [eC]
    obtain ⟨c, hcc⟩ : ∃ c, checkE b l = c := ⟨_, rfl⟩
    have h3 := check_range b l
    rw [hcc] at CK hc h3 ⊢
    simp only
    have hd : decide (c = 0) = false := decide_eq_false hc
    clear hcc eC
    replace CK := Lib.hid CK
    go_enter Try.func28, Try.ntmps28
    go_wp2_with (first | (go_at_call 15; refine CK.out.mono ?_; rintro e w1 ⟨rfl, bb⟩) | fail)
    go_ret2
    exact ⟨_, rfl, World.ownsRow_nil _ _ _ _, b0.trans (bb.mono (by simp))⟩
set_option maxRecDepth 100000 in
set_option maxHeartbeats 4000000 in
theorem rtake_any (b : Int) (l : List Ext) (A : Option Addr) (cap : Nat) (n : Int) (w : World) (hb : I64 b) (hn : I64 n) (hr : RdE w A l) (hl : l.length ≤ cap) :
    Calls Try.prog 12 #[.int .i64 b, .slice A l.length cap, .int .i64 n] w fun e w' => ∃ v, e = .returned (.tuple #[eV (takeC b l n).1.1 (takeC b l n).1.2, v, .int .i64 (takeC b l n).2.2]) ∧ w'.ownsRow w.heap.size 25 2 v (takeC b l n).2.1.length (extsV (takeC b l n).2.1) ∧ Below w.heap.size w w' := by
  have b0 : Below w.heap.size w (w.alloc (eO 0 0)) := (Below.refl _ _).alloc (Nat.le_refl _) _
  have CK := rcheck_any b l A cap (w.alloc (eO 0 0)) hb (hr.below b0) hl
  have HR := Lib.hid hr
  have hm := hr.1
  have R0 := Lib.hid (heap_new w (eO 0 0) w.heap.size rfl)
  obtain ⟨n1, n2⟩ := hn
  clear hr
  by_cases hc : checkE b l = 0
  · obtain ⟨⟨b1, b2⟩, hf⟩ := check_zero hc
    rw [hc] at CK
    have hsm := free_small hf b2
    have HF := Lib.hid hf
    replace CK := Lib.hid CK
    by_cases hn1 : n < 1
    · have eC : takeC b l n = ((0, 0), [], 1) := by unfold takeC; rw [if_pos hc, if_pos hn1]
      rw [eC]
      clear eC hc hf
      simp only
      go_enter Try.func12, Try.ntmps12
      go_wp2_with (first | (go_at_call 15; refine CK.out.mono ?_; rintro e w1 ⟨rfl, bb⟩; have r0 := keepH bb R0.out; have q0 : w1.cell? ⟨w.heap.size, 0, none⟩ = some (.int .i64 0) := (by rw [Joins.cell_of_block r0]; rfl); have q1 : w1.cell? ⟨w.heap.size, 1, none⟩ = some (.int .i64 0) := (by rw [Joins.cell_of_block r0]; rfl); have f0 := fr_of r0 0; have f1 := fr_of r0 1) | fail)
      obtain ⟨Wz, hWz⟩ : ∃ Wz, ((w1).setCell ⟨w.heap.size, 0, none⟩ (.int .i64 (0))).setCell ⟨w.heap.size, 1, none⟩ (.int .i64 (0)) = Wz := ⟨_, rfl⟩
      first | rw [hWz] | skip
      have gz : Wz.heap[w.heap.size]? = some (eO (0) (0)) := by rw [← hWz]; exact two_set (r0)
      have bz : Below w.heap.size w Wz := by rw [← hWz]; exact ((b0.trans (bb.mono (by simp))).setCell (Nat.le_refl _) _).setCell (Nat.le_refl _) _
      have oz : Wz.ownsRow w.heap.size 25 2 (.slice none 0 0) 0 (extsV []) := by rw [← hWz]; exact own_set2 (World.ownsRow_nil _ _ _ _)
      have d0 : Wz.cell? ⟨w.heap.size, 0, none⟩ = some (.int .i64 (0)) := by rw [Joins.cell_of_block gz]; rfl
      have d1 : Wz.cell? ⟨w.heap.size, 1, none⟩ = some (.int .i64 (0)) := by rw [Joins.cell_of_block gz]; rfl
      exact bodyPost_ret (v := .tuple #[eV (0) (0), .slice none 0 0, .int .i64 1]) (by simp [results, Try.results12, go_sem, d0, d1]) rfl ⟨_, rfl, oz, bz⟩
    · obtain ⟨T, hT⟩ : ∃ T, fitsE l n = T := ⟨_, rfl⟩
      have eC : takeC b l n = takeM l n T := by unfold takeC; rw [if_pos hc, if_neg hn1, hT]
      have HT := Lib.hid hT
      obtain ⟨⟨⟨X, Y⟩, R, c⟩, hC⟩ : ∃ C, takeC b l n = C := ⟨_, rfl⟩
      rw [hC] at eC ⊢
      simp only
      have HC := Lib.hid eC.symm
      clear hT hC hc eC hf
      go_enter Try.func12, Try.ntmps12
      go_wp2_with (first | (go_at_call 15; refine CK.out.mono ?_; rintro e w1 ⟨rfl, bb⟩; have r0 := Lib.hid (keepH bb R0.out); have b01 : Below w.heap.size w w1 := b0.trans (bb.mono (by simp)); clear bb) | fail)
      clear CK
      go_loopw [10] (fun i wr => ∃ k : Nat, k ≤ l.length ∧ i = .int .i64 k ∧ fitsE (l.drop k) n = T ∧ wr.heap[w.heap.size]? = some (eO 0 0) ∧ Below w.heap.size w wr) (fun i _ => l.length - (intOf i).toNat)
      case atStart => exact ⟨0, Nat.zero_le _, rfl, HT.out, r0.out, b01⟩
      case round =>
        obtain ⟨k, hk, rfl, hp, hg, hbel⟩ := hrel
        have hsr := hbel.size
        have hsr1 : w.heap.size < wr.heap.size := (Array.getElem?_eq_some_iff.1 hg).1
        by_cases hlt : k < l.length
        · obtain ⟨ad, hAd, c0, c1, i1, i2⟩ := (HR.out.below hbel).2 k hlt
          subst hAd
          have hlie := (freeF_lies HF.out _ (List.getElem_mem hlt)).1
          rw [List.drop_eq_getElem_cons hlt] at hp
          have HM := Lib.hid (List.getElem_mem hlt)
          obtain ⟨⟨x, y⟩, ht⟩ : ∃ t, l[k] = t := ⟨_, rfl⟩
          rw [ht] at c0 c1 hlie hp HM
          unfold liesE at hlie
          simp only at c0 c1 hlie
          obtain ⟨p1, p2, p3⟩ := hlie
          clear ht i1 i2
          by_cases hy : n ≤ y
          · have hT' : T = some (x, y) := by rw [← hp, fitsE, if_pos hy]
            have eC := HC.out
            rw [hT'] at eC
            simp only [takeM, Prod.mk.injEq] at eC
            obtain ⟨⟨rfl, rfl⟩, rfl, rfl⟩ := eC
            have hL : liesE b (x, n) := by unfold liesE; simp only; omega
            have hH : hasE l (x, n) := ⟨(x, y), HM.out, by simp only; omega, by simp only; omega⟩
            have CLE := claim_ok ⟨b1, b2⟩ HF.out hL hH
            have bb : Below w.heap.size w (wr.alloc (eO x n)) := hbel.alloc hsr _
            have CL := Lib.hid (rclaim_any b l (some ad) cap x n (wr.alloc (eO x n)) hb ⟨by omega, by omega⟩ ⟨n1, n2⟩ (HR.out.below bb) hl)
            rw [CLE] at CL
            simp only at CL
            have hg2 := Lib.hid (heap_old (eO x n) trivial hg)
            have d0 : (wr.alloc (eO x n)).cell? ⟨wr.heap.size, 0, none⟩ = some (.int .i64 x) := cell_new wr #[.int .i64 x, .int .i64 n] 25 (0, 0) 0 _ rfl
            have d1 : (wr.alloc (eO x n)).cell? ⟨wr.heap.size, 1, none⟩ = some (.int .i64 n) := cell_new wr #[.int .i64 x, .int .i64 n] 25 (0, 0) 1 _ rfl
            have D0 := Lib.hid d0
            have D1 := Lib.hid d1
            clear hp hT' CLE hL hH
            go_wp2_with (first | (go_at_call 28; refine CL.out.mono ?_; rintro e w2 ⟨u, rfl, hu, b2'⟩; have HU := Lib.hid hu; have r2 := keepH b2' hg2.out; have q0 : w2.cell? ⟨w.heap.size, 0, none⟩ = some (.int .i64 0) := (by rw [Joins.cell_of_block r2]; rfl); have q1 : w2.cell? ⟨w.heap.size, 1, none⟩ = some (.int .i64 0) := (by rw [Joins.cell_of_block r2]; rfl); have f0 := fr_of r2 0; have f1 := fr_of r2 1; have x0 := keepB b2' D0.out; have x1 := keepB b2' D1.out; clear hu) | fail)
            obtain ⟨Wz, hWz⟩ : ∃ Wz, ((w2).setCell ⟨w.heap.size, 0, none⟩ (.int .i64 (x))).setCell ⟨w.heap.size, 1, none⟩ (.int .i64 (n)) = Wz := ⟨_, rfl⟩
            first | rw [hWz] | skip
            have gz : Wz.heap[w.heap.size]? = some (eO (x) (n)) := by rw [← hWz]; exact two_set (r2)
            have bz : Below w.heap.size w Wz := by rw [← hWz]; exact (((bb.trans (b2'.mono bb.size) : Below w.heap.size w w2)).setCell (Nat.le_refl _) _).setCell (Nat.le_refl _) _
            have oz : Wz.ownsRow w.heap.size 25 2 (u) (withoutE l (x, n)).length (extsV (withoutE l (x, n))) := by rw [← hWz]; exact own_set2 (own_up HU.out bb.size) (fun e' => by have h := own_base' HU.out _ e'; have h2 : (wr.alloc (eO x n)).heap.size = wr.heap.size + 1 := size_alloc _ _; omega)
            have d0 : Wz.cell? ⟨w.heap.size, 0, none⟩ = some (.int .i64 (x)) := by rw [Joins.cell_of_block gz]; rfl
            have d1 : Wz.cell? ⟨w.heap.size, 1, none⟩ = some (.int .i64 (n)) := by rw [Joins.cell_of_block gz]; rfl
            exact bodyPost_ret (v := .tuple #[eV (x) (n), u, .int .i64 0]) (by simp [results, Try.results12, go_sem, d0, d1]) rfl ⟨_, rfl, oz, bz⟩
          · have Hp := Lib.hid (show fitsE (l.drop (k + 1)) n = T by rw [← hp, fitsE, if_neg hy])
            clear hp
            go_wp2
            go_roundw
            case rel => exact ⟨k + 1, by omega, by go_num, Hp.out, hg, hbel⟩
            case measure => simp [intOf]; omega
        · rw [List.drop_eq_nil_of_le (by omega), fitsE] at hp
          have eC := HC.out
          rw [← hp] at eC
          simp only [takeM, Prod.mk.injEq] at eC
          obtain ⟨⟨rfl, rfl⟩, rfl, rfl⟩ := eC
          have q0 : wr.cell? ⟨w.heap.size, 0, none⟩ = some (.int .i64 0) := by rw [Joins.cell_of_block hg]; rfl
          have q1 : wr.cell? ⟨w.heap.size, 1, none⟩ = some (.int .i64 0) := by rw [Joins.cell_of_block hg]; rfl
          have f0 := fr_of hg 0
          have f1 := fr_of hg 1
          go_wp2
          obtain ⟨Wz, hWz⟩ : ∃ Wz, ((wr).setCell ⟨w.heap.size, 0, none⟩ (.int .i64 (0))).setCell ⟨w.heap.size, 1, none⟩ (.int .i64 (0)) = Wz := ⟨_, rfl⟩
          first | rw [hWz] | skip
          have gz : Wz.heap[w.heap.size]? = some (eO (0) (0)) := by rw [← hWz]; exact two_set (hg)
          have bz : Below w.heap.size w Wz := by rw [← hWz]; exact ((hbel).setCell (Nat.le_refl _) _).setCell (Nat.le_refl _) _
          have oz : Wz.ownsRow w.heap.size 25 2 (.slice none 0 0) 0 (extsV []) := by rw [← hWz]; exact own_set2 (World.ownsRow_nil _ _ _ _)
          have d0 : Wz.cell? ⟨w.heap.size, 0, none⟩ = some (.int .i64 (0)) := by rw [Joins.cell_of_block gz]; rfl
          have d1 : Wz.cell? ⟨w.heap.size, 1, none⟩ = some (.int .i64 (0)) := by rw [Joins.cell_of_block gz]; rfl
          exact bodyPost_ret (v := .tuple #[eV (0) (0), .slice none 0 0, .int .i64 101]) (by simp [results, Try.results12, go_sem, d0, d1]) rfl ⟨_, rfl, oz, bz⟩
  · have eC : takeC b l n = ((0, 0), [], checkE b l) := by unfold takeC; rw [if_neg hc]
    rw [eC]
    obtain ⟨c, hcc⟩ : ∃ c, checkE b l = c := ⟨_, rfl⟩
    have h3 := check_range b l
    rw [hcc] at CK hc h3 ⊢
    simp only
    have hd : decide (c = 0) = false := decide_eq_false hc
    clear hcc eC
    replace CK := Lib.hid CK
    go_enter Try.func12, Try.ntmps12
    go_wp2_with (first | (go_at_call 15; refine CK.out.mono ?_; rintro e w1 ⟨rfl, bb⟩; have r0 := keepH bb R0.out; have q0 : w1.cell? ⟨w.heap.size, 0, none⟩ = some (.int .i64 0) := (by rw [Joins.cell_of_block r0]; rfl); have q1 : w1.cell? ⟨w.heap.size, 1, none⟩ = some (.int .i64 0) := (by rw [Joins.cell_of_block r0]; rfl); have f0 := fr_of r0 0; have f1 := fr_of r0 1) | fail)
    obtain ⟨Wz, hWz⟩ : ∃ Wz, ((w1).setCell ⟨w.heap.size, 0, none⟩ (.int .i64 (0))).setCell ⟨w.heap.size, 1, none⟩ (.int .i64 (0)) = Wz := ⟨_, rfl⟩
    first | rw [hWz] | skip
    have gz : Wz.heap[w.heap.size]? = some (eO (0) (0)) := by rw [← hWz]; exact two_set (r0)
    have bz : Below w.heap.size w Wz := by rw [← hWz]; exact ((b0.trans (bb.mono (by simp))).setCell (Nat.le_refl _) _).setCell (Nat.le_refl _) _
    have oz : Wz.ownsRow w.heap.size 25 2 (.slice none 0 0) 0 (extsV []) := by rw [← hWz]; exact own_set2 (World.ownsRow_nil _ _ _ _)
    have d0 : Wz.cell? ⟨w.heap.size, 0, none⟩ = some (.int .i64 (0)) := by rw [Joins.cell_of_block gz]; rfl
    have d1 : Wz.cell? ⟨w.heap.size, 1, none⟩ = some (.int .i64 (0)) := by rw [Joins.cell_of_block gz]; rfl
    exact bodyPost_ret (v := .tuple #[eV (0) (0), .slice none 0 0, .int .i64 c]) (by simp [results, Try.results12, go_sem, d0, d1]) rfl ⟨_, rfl, oz, bz⟩
end Go.Proofs.Ytglbcejcibohpaa
