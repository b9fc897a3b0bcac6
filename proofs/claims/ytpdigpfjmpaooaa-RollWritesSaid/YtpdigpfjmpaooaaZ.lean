import Derived.Test.YtpdigpfjmpaooaaX
import Derived.Test.YtpdigpfjmpaooaaE2
import Derived.Deep.Cut
/-! RollWrites. -/
namespace Go.Proofs.Ytpdigpfjmpaooaa
open Go.RowKit
set_option linter.unusedVariables false
set_option linter.unusedSimpArgs false
theorem splitE_short (le mo bi : Int) (hok : okC le mo bi) (l : List (BitVec 8)) : (splitE le mo bi l).2.length ≤ 4096 := by
  have hf := splitE_false le mo bi hok l
  obtain ⟨h1, h2, h3, _⟩ := id hok
  obtain ⟨a, b, c, d, e⟩ := nextL_bounds le mo bi hok (splitE le mo bi l).2 0 0 (by simp; omega)
  have := e hf
  omega
theorem CutAt.rother {W W' : World} {g g' : Nat} {le mo bi : Int} {L L' : List (BitVec 8)} (h : CutAt W g le mo bi L) (h' : RCutAt W g' le mo bi L') (hb : Besides [g'] W W') : CutAt W' g le mo bi L := by
  obtain ⟨v, hk, ho, c, fz, hc⟩ := h
  obtain ⟨c', fz', hc'⟩ := h'.kind
  have hne : g ≠ g' := fun e => by subst e; rw [hc] at hc'; cases hc'
  have hgb := hb.block g (Array.getElem?_eq_some_iff.1 hc).1 (by simp; exact hne)
  refine ⟨v, hk.besides hb (by simp; exact hne), own_besides ho hb (fun q hq hqs => ?_), c, fz, hgb.trans hc⟩
  simp at hqs; subst hqs
  obtain ⟨c2, fz2, hc2⟩ := ownsRow_cells ho q hq
  rw [hc2] at hc'; cases hc'
theorem own_rkept {W W' : World} {g : Nat} {le mo bi : Int} {L : List (BitVec 8)} {base size n : Nat} {v : Value} {xs : List Value} (h : W.ownsRow base 5 size v n xs) (h' : RCutAt W g le mo bi L) (hb : Besides [g] W W') : W'.ownsRow base 5 size v n xs :=
  own_besides h hb (fun q hq hqs => by
    simp at hqs
    subst hqs
    obtain ⟨c, fz, hc⟩ := h'.kind
    obtain ⟨c2, fz2, hc2⟩ := ownsRow_cells h q hq
    rw [hc2] at hc
    cases hc)
set_option maxRecDepth 100000 in
set_option maxHeartbeats 4000000 in
theorem rollWrites_any (le mo bi : Int) (ps : List (List (BitVec 8))) (A : Option Addr) (ca : Nat) (fs : List Bool) (B : Option Addr) (cb : Nat) (w : World) (_h1 : I64 le) (_h2 : I64 mo) (_h3 : I64 bi)
    (hra : RdR (EqN w) w A ps) (hla : ps.length ≤ ca) (hrb : RdR (fun x v => v = Value.bool x) w B fs) (hlb : fs.length ≤ cb) :
    Calls Try.prog 8 #[confV le mo bi, .slice A ps.length ca, .slice B fs.length cb] w fun e w' => e = .returned (.bool true) ∧ Below w.heap.size w w' := by
  have b0 : Below w.heap.size w (w.alloc (confO le mo bi)) := (Below.refl _ _).alloc (Nat.le_refl _) _
  by_cases hok : okC le mo bi
  · have HC := Lib.hid (show checkC le mo bi = 0 by rw [checkC, if_pos hok])
    have RA := Lib.hid hra
    have RB := Lib.hid hrb
    have ham := hra.1
    have hbm := hrb.1
    have NEW := Lib.hid (fun w => new_ok le mo bi w hok)
    have WR := Lib.hid (write_w le mo bi hok)
    have RWR := Lib.hid (fun g L b A cap w => rwrite_yes g le mo bi L b A cap w hok)
    have CLOSE := Lib.hid (fun g L w => close_yes g le mo bi L w hok)
    have RCLOSE := Lib.hid (fun g L w => rclose_yes g le mo bi L w)
    have LEFT := Lib.hid (fun g L w => left_yes g le mo bi L w hok)
    have SHORT := Lib.hid (splitE_short le mo bi hok)
    clear hra hrb _h1 _h2 _h3 hok
    go_enter Try.func8, Try.ntmps8
    go_upto_region 6 with (first | (go_at_call 15; refine (awake_any _).mono ?_; rintro e w1 ⟨rfl, ba⟩; have b1 := b0.trans (ba.mono b0.size); have d0 := keepB ba (show (w.alloc (confO le mo bi)).cell? ⟨w.heap.size, 0, none⟩ = some (.int .i64 le) by simp [go_sem]); have d1 := keepB ba (show (w.alloc (confO le mo bi)).cell? ⟨w.heap.size, 1, none⟩ = some (.int .i64 mo) by simp [go_sem]); have d2 := keepB ba (show (w.alloc (confO le mo bi)).cell? ⟨w.heap.size, 2, none⟩ = some (.int .i64 bi) by simp [go_sem])) | (go_at_call 22; refine (NEW.out _).mono ?_; rintro e w2 ⟨g1, rfl, cut, z1, s1, bn1⟩; have f0 := keepB bn1 d0; have f1 := keepB bn1 d1; have f2 := keepB bn1 d2; replace s1 := Lib.hid s1) | (go_at_call 16; refine (rcheck_any le mo bi _).mono ?_; rintro e w' ⟨rfl, rfl⟩; rw [HC.out]))
    have b2 : Below w.heap.size w (w2.alloc (confO le mo bi)) := (b1.trans (bn1.mono b1.size)).alloc (Nat.le_trans b1.size bn1.size) _
    have hg1 : w.heap.size ≤ g1 := by have := b1.size; omega
    have hg12 : g1 < w2.heap.size := by rw [s1.out]; omega
    have cut := cut.below ((Below.refl _ _).alloc (Nat.le_refl _) (confO le mo bi))
    have e0 := keepA (o := confO le mo bi) f0
    have e1 := keepA (o := confO le mo bi) f1
    have e2 := keepA (o := confO le mo bi) f2
    have z2 : (w2.alloc (confO le mo bi)).heap.size = w2.heap.size + 1 := by simp
    generalize w2.alloc (confO le mo bi) = W at *
    have hg2 : w2.heap.size + 1 ≤ W.heap.size ∧ W.heap.size ≤ w2.heap.size + 1 := by omega
    clear ba b1 bn1 s1 z1 d0 d1 d2 f0 f1 f2 z2
    go_upto_region 9 with (refine wpList_build_at rfl 58 _ rfl #[.int .i64 le, .int .i64 mo, .int .i64 bi, .slice none 0 0] (by kernel_rfl) ?_)
    obtain ⟨g2, hg2e⟩ : ∃ g, W.heap.size = g := ⟨_, rfl⟩
    have k0 : RCutAt (W.alloc (Obj.cells #[.int .i64 le, .int .i64 mo, .int .i64 bi, .slice none 0 0] 58)) W.heap.size le mo bi [] := by
      refine ⟨none, 0, fun q hq => ?_, by simp, fun _ => rfl, ⟨by simp, fun j hj => by simp at hj⟩, fun ad e => (by cases e), _, _, heap_new _ _ _ rfl⟩
      simp only [List.mem_cons, List.not_mem_nil, or_false] at hq
      rcases hq with rfl | rfl | rfl | rfl <;> simp [go_sem]
    have cut0 := cut.below ((Below.refl _ _).alloc (Nat.le_refl _) (Obj.cells #[.int .i64 le, .int .i64 mo, .int .i64 bi, .slice none 0 0] 58))
    have b30 : Below w.heap.size w (W.alloc (Obj.cells #[.int .i64 le, .int .i64 mo, .int .i64 bi, .slice none 0 0] 58)) := b2.alloc b2.size _
    have zW : (W.alloc (Obj.cells #[.int .i64 le, .int .i64 mo, .int .i64 bi, .slice none 0 0] 58)).heap.size = W.heap.size + 1 := by simp
    rw [hg2e] at k0 zW ⊢
    generalize W.alloc (Obj.cells #[.int .i64 le, .int .i64 mo, .int .i64 bi, .slice none 0 0] 58) = W0 at *
    have hgg : g1 < g2 := by omega
    have hgw : w.heap.size ≤ g2 := by omega
    have hzW0 : g2 < W0.heap.size := by omega
    clear cut b2 zW hg2e hg2 e0 e1 e2 hg12
    go_wp2
    go_loopw [10] (fun i wr => ∃ (k : Nat) (L : List (BitVec 8)), k ≤ ps.length ∧ k ≤ 40 ∧ i = .int .i64 k ∧ CutAt wr g1 le mo bi L ∧ RCutAt wr g2 le mo bi L ∧ L.length ≤ 4096 ∧ Below w.heap.size w wr) (fun i _ => 41 - (intOf i).toNat)
    case atStart => exact ⟨0, [], Nat.zero_le _, Nat.zero_le _, rfl, cut0, k0, by simp, b30⟩
    case round =>
      obtain ⟨k, L, hk, hk40, rfl, hcut, rcut, hL, hbel⟩ := hrel
      by_cases hlt : k < ps.length
      · by_cases hlt4 : k < 40
        · obtain ⟨ad, va, hA, hcell, A1q, cq, rfl, hqc0, hrq0, hnq⟩ := (RdR.below (R' := EqN w) RA.out hbel (fun _ _ h => h)).2 k hlt
          subst hA
          have CUT := Lib.hid (fun w => cut_any ps[k] A1q cq w hqc0 hrq0.1)
          have hrq1 := hrq0.take 8192
          have hq1 : (ps[k].take 8192).length ≤ 8192 := by rw [List.length_take]; omega
          have hqc : (ps[k].take 8192).length ≤ cq := by rw [List.length_take]; omega
          generalize ps[k].take 8192 = q at *
          generalize ps[k].length = m at *
          have HRQ := Lib.hid hrq1
          obtain ⟨gc, gz, hgc⟩ := hcut.kind
          have hg1w : g1 < wr.heap.size := (Array.getElem?_eq_some_iff.1 hgc).1
          obtain ⟨gc2, gz2, hgc2⟩ := rcut.kind
          have hg2w : g2 < wr.heap.size := (Array.getElem?_eq_some_iff.1 hgc2).1
          have hcutk := hcut.kind
          have hlt' : (k : Int) < ps.length := by omega
          have hlt4' : (k : Int) < 40 := by omega
          clear hrq0 hrq1 hqc0 hgc hgc2
          by_cases hf : k < fs.length
          · obtain ⟨bd, vb, hB, hcb, rfl⟩ := (RdR.below (R' := fun (x : Bool) v => v = Value.bool x) RB.out hbel (fun _ _ h => h)).2 k hf
            subst hB
            have hf' : (k : Int) < fs.length := by omega
            cases hfk : fs[k] with
            | true =>
              rw [hfk] at hcb
              have CL := Lib.hid (CLOSE.out g1 L wr hcut)
              go_upto_region 15 with (first | (go_at_call 10; refine (CUT.out _).mono ?_; rintro e w' ⟨rfl, rfl⟩) | (go_at_call 25; refine CL.out.mono ?_; rintro e w3 ⟨u1, rfl, q1, cut3', bes3⟩))
              have b3' : Below w.heap.size w w3 := hbel.trans (bes3.to_below (by simp; omega) hbel.size)
              have rcut3' := rcut.other hcutk bes3
              have bV0 : Below w3.heap.size w3 w3.drew := (Below.refl _ _).drew
              have cut3 := cut3'.below bV0
              have rcut3 := rcut3'.below bV0
              have b3 : Below w.heap.size w w3.drew := b3'.trans (bV0.mono b3'.size)
              have q1V := own_below q1 bV0
              have z3 := bes3.size
              obtain ⟨B1, d1, hu1, t1, rd1, _⟩ := own_bytes q1V
              subst hu1
              obtain ⟨V, hV⟩ : ∃ V, w3.drew = V := ⟨_, rfl⟩
              rw [hV] at cut3 rcut3 b3 q1V rd1
              have CVV := conv_rd rd1 L.length d1 rfl
              have zV : w3.heap.size ≤ V.heap.size := by rw [← hV]; exact Nat.le_refl _
              obtain ⟨n, hn⟩ : ∃ n, L.length = n := ⟨_, rfl⟩
              obtain ⟨Y, hY⟩ : ∃ Y, strV L = Y := ⟨_, rfl⟩
              rw [hn, hY] at CVV
              rw [hn]
              have hS1 : (convert 24 9 (.slice B1 n d1)).run Try.prog w3.drew = .ok (.string Y) w3.drew := by rw [hV]; exact CVV
              have HN := Lib.hid hn
              have HY := Lib.hid hY
              have Q1 := Lib.hid q1V
              have RCL := Lib.hid (RCLOSE.out g2 L V rcut3)
              replace CVV := Lib.hid CVV
              clear hn hY q1 q1V rd1 bes3 cut3' rcut3' b3' bV0 CL
              have hS0 : (convert 24 9 (.slice B1 n d1)).run Try.prog V = .ok (.string Y) V := CVV.out
              refine wp_region_noPanic ?_
              refine wp_region_held_drew (S := fun W => (convert 24 9 (.slice B1 n d1)).run Try.prog W = .ok (.string Y) W) (by kernel_rfl) hS1 (fun _ => ?_)
              rw [hV]
              clear hV hS1
              refine wpAnyH_take (i := 0) (v := ?_) rfl (by kernel_rfl) (by kernel_rfl) (by kernel_rfl) (fun _ _ _ h => h) (Or.inl ⟨by kernel_rfl, ?_⟩) (hS0) ?_
              rotate_left
              · intro W hSw
                go_simp
                all_goals with_reducible rfl
              try simp only [Act.put, List.setIfInBounds_toArray, List.set_cons_zero, List.set_cons_succ]
              refine wpAnyH_take (i := 1) (v := ?_) rfl (by kernel_rfl) (by kernel_rfl) (by kernel_rfl) (fun _ _ _ h => h) (Or.inl ⟨by kernel_rfl, ?_⟩) (hS0) ?_
              rotate_left
              · intro W hSw
                go_simp
                all_goals with_reducible rfl
              try simp only [Act.put, List.setIfInBounds_toArray, List.set_cons_zero, List.set_cons_succ]
              refine wpAnyH_take (i := 2) (v := ?_) rfl (by kernel_rfl) (by kernel_rfl) (by kernel_rfl) (fun _ _ _ h => h) (Or.inl ⟨by kernel_rfl, ?_⟩) (hS0) ?_
              rotate_left
              · intro W hSw
                go_simp
                all_goals with_reducible rfl
              try simp only [Act.put, List.setIfInBounds_toArray, List.set_cons_zero, List.set_cons_succ]
              refine wpAnyH_take (i := 3) (v := ?_) rfl (by kernel_rfl) (by kernel_rfl) (by kernel_rfl) (fun _ _ _ h => h) (Or.inl ⟨by kernel_rfl, ?_⟩) (hS0) ?_
              rotate_left
              · intro W hSw
                go_simp
                all_goals with_reducible rfl
              try simp only [Act.put, List.setIfInBounds_toArray, List.set_cons_zero, List.set_cons_succ]
              refine wpAnyH_take (i := 4) (v := .string Y) rfl (by kernel_rfl) (by kernel_rfl) (by kernel_rfl) (fun _ _ _ h => h) (Or.inl ⟨by kernel_rfl, ?_⟩) (hS0) ?_
              · intro W hSw
                go_simp
              try simp only [Act.put, List.setIfInBounds_toArray, List.set_cons_zero, List.set_cons_succ]
              refine wpAnyH_take (i := 5) (v := ?_) rfl (by kernel_rfl) (by kernel_rfl) (by kernel_rfl) (fun _ _ _ h => h) (Or.inl ⟨by kernel_rfl, ?_⟩) (hS0) ?_
              rotate_left
              · intro W hSw
                go_simp
                all_goals with_reducible rfl
              try simp only [Act.put, List.setIfInBounds_toArray, List.set_cons_zero, List.set_cons_succ]
              refine wpAnyH_ready (rs := [6]) (by kernel_rfl) (by simp) ?_
              refine AllReadyH.cons rfl (fun K hK => ?_) AllReadyH.nil
              go_simp
              refine RCL.out.mono ?_
              rintro e w4 ⟨B2, d2, rfl, t2, rd2, rcut4, bes4⟩
              have cut4 := cut3.rother rcut3 bes4
              have hS4 : (convert 24 9 (.slice B1 n d1)).run Try.prog w4 = .ok (.string Y) w4 := (by (obtain ⟨B1', d1', e', _, rd1, _⟩ := own_bytes (own_rkept Q1.out rcut3 bes4); cases e'; have := conv_rd rd1 L.length d1 rfl; rw [HN.out, HY.out] at this; exact this))
              have k4 : (convert 24 9 (.slice B2 n d2)).run Try.prog w4 = .ok (.string Y) w4 := (by (have := conv_rd rd2 L.length d2 rfl; rw [HN.out, HY.out] at this; exact this))
              have z4 := bes4.size
              rw [HN.out]
              go_wp2_with fail
              refine hK.out _ _ (hS4) (fun _ => ?_)
              clear hK K
              try simp only [Act.put, List.setIfInBounds_toArray, List.set_cons_zero, List.set_cons_succ]
              refine wpAnyH_ready (rs := [7]) (by kernel_rfl) (by simp) ?_
              refine AllReadyH.cons rfl (fun K hK => ?_) AllReadyH.nil
              go_simp
              refine hK.out _ _ (hS4) (fun _ => ?_)
              clear hK K
              try simp only [Act.put, List.setIfInBounds_toArray, List.set_cons_zero, List.set_cons_succ]
              refine wpAnyH_take (i := 8) (v := ?_) rfl (by kernel_rfl) (by kernel_rfl) (by kernel_rfl) (fun _ _ _ h => h) (Or.inl ⟨by kernel_rfl, ?_⟩) (hS4) ?_
              rotate_left
              · intro W hSw
                go_simp
                all_goals with_reducible rfl
              try simp only [Act.put, List.setIfInBounds_toArray, List.set_cons_zero, List.set_cons_succ]
              refine wpAnyH_take (i := 9) (v := ?_) rfl (by kernel_rfl) (by kernel_rfl) (by kernel_rfl) (fun _ _ _ h => h) (Or.inl ⟨by kernel_rfl, ?_⟩) (hS4) ?_
              rotate_left
              · intro W hSw
                go_simp
                all_goals with_reducible rfl
              try simp only [Act.put, List.setIfInBounds_toArray, List.set_cons_zero, List.set_cons_succ]
              refine wpAnyH_take (i := 10) (v := ?_) rfl (by kernel_rfl) (by kernel_rfl) (by kernel_rfl) (fun _ _ _ h => h) (Or.inl ⟨by kernel_rfl, ?_⟩) (hS4) ?_
              rotate_left
              · intro W hSw
                go_simp
                all_goals with_reducible rfl
              try simp only [Act.put, List.setIfInBounds_toArray, List.set_cons_zero, List.set_cons_succ]
              refine wpAnyH_take (i := 11) (v := ?_) rfl (by kernel_rfl) (by kernel_rfl) (by kernel_rfl) (fun _ _ _ h => h) (Or.inl ⟨by kernel_rfl, ?_⟩) (hS4) ?_
              rotate_left
              · intro W hSw
                go_simp
                all_goals with_reducible rfl
              try simp only [Act.put, List.setIfInBounds_toArray, List.set_cons_zero, List.set_cons_succ]
              refine wpAnyH_ready (rs := [12]) (by kernel_rfl) (by simp) ?_
              refine AllReadyH.cons rfl (fun K hK => ?_) AllReadyH.nil
              go_simp
              refine (LEFT.out g1 [] w4 cut4).mono ?_
              rintro e w' ⟨rfl, rfl⟩
              simp only [List.length_nil, Int.natCast_zero]
              go_wp2_with fail
              refine hK.out _ _ (hS4) (fun _ => ?_)
              clear hK K
              try simp only [Act.put, List.setIfInBounds_toArray, List.set_cons_zero, List.set_cons_succ]
              refine wpAnyH_take (i := 13) (v := ?_) rfl (by kernel_rfl) (by kernel_rfl) (by kernel_rfl) (fun _ _ _ h => h) (Or.inl ⟨by kernel_rfl, ?_⟩) (hS4) ?_
              rotate_left
              · intro W hSw
                go_simp
                all_goals with_reducible rfl
              try simp only [Act.put, List.setIfInBounds_toArray, List.set_cons_zero, List.set_cons_succ]
              refine wpAnyH_ready (rs := [14]) (by kernel_rfl) (by simp) ?_
              refine AllReadyH.cons rfl (fun K hK => ?_) AllReadyH.nil
              go_simp
              refine hK.out _ _ (hS4) (fun _ => ?_)
              clear hK K
              try simp only [Act.put, List.setIfInBounds_toArray, List.set_cons_zero, List.set_cons_succ]
              refine wpAnyH_done (by kernel_rfl) ?_ _
              refine NoPanic.normal ?_
              have cut5x := cut4
              have hrq : RdB w4 A1q q := RdR.below (R' := EqB) HRQ.out (b3.trans (bes4.to_below (by simp; omega) b3.size)) (fun _ _ h => h)
              have WRQ := Lib.hid (WR.out g1 [] q A1q cq w4 cut4 hrq hnq hqc (by simp only [List.length_nil]; omega))
              have ck : ∃ c fz, w4.heap[g1]? = some (Obj.cells c 51 fz) := (cut4).kind
              go_upto_region 18 with (first | (go_at_call 24; refine WRQ.out.mono ?_; rintro e w5 ⟨v14, rfl, o14, cut5, bes5⟩))
              have rcut5 := (rcut4).other ck bes5
              have b5 : Below w.heap.size w w5 := ((b3.trans (bes4.to_below (by simp; omega) b3.size))).trans (bes5.to_below (by simp; omega) ((b3.trans (bes4.to_below (by simp; omega) b3.size))).size)
              have hsh := SHORT.out ([] ++ q)
              have RWV := fun (V : World) => RWR.out g2 [] q A1q cq V
              obtain ⟨⟨T1, T2⟩, hT⟩ : ∃ T, splitE le mo bi ([] ++ q) = T := ⟨_, rfl⟩
              rw [hT] at hsh o14 cut5 RWV
              simp only [] at hsh o14 cut5 RWV
              have zz5 := bes5.size
              have bV0 : Below w5.heap.size w5 w5.drew := (Below.refl _ _).drew
              replace cut5 := cut5.below bV0
              replace rcut5 := rcut5.below bV0
              replace o14 := o14.below bV0
              replace b5 : Below w.heap.size w w5.drew := b5.trans (bV0.mono b5.size)
              obtain ⟨V, hV⟩ : ∃ V, w5.drew = V := ⟨_, rfl⟩
              have zV : w5.heap.size ≤ V.heap.size := by rw [← hV]; exact Nat.le_refl _
              rw [hV] at cut5 rcut5 o14 b5
              obtain ⟨A1, c1, hv14, _⟩ := o14.read
              subst hv14
              have O14 := Lib.hid o14
              have hrV : RdB V A1q q := RdR.below (R' := EqB) HRQ.out b5 (fun _ _ h => h)
              have RW := Lib.hid (RWV V rcut5 hrV hnq hqc (by simp only [List.length_nil]; omega))
              clear hT RWV WRQ o14 bes5 bV0 hrq hrV ck
              refine wp_region_noPanic ?_
              refine wp_region_held_drew (S := fun _ => True) (by kernel_rfl) trivial (fun _ => ?_)
              rw [hV]
              clear hV
              refine wpAnyH_take (i := 0) (v := ?_) rfl (by kernel_rfl) (by kernel_rfl) (by kernel_rfl) (fun _ _ _ h => h) (Or.inl ⟨by kernel_rfl, ?_⟩) (trivial) ?_
              rotate_left
              · intro W hSw
                go_simp
                all_goals with_reducible rfl
              try simp only [Act.put, List.setIfInBounds_toArray, List.set_cons_zero, List.set_cons_succ]
              refine wpAnyH_take (i := 1) (v := ?_) rfl (by kernel_rfl) (by kernel_rfl) (by kernel_rfl) (fun _ _ _ h => h) (Or.inl ⟨by kernel_rfl, ?_⟩) (trivial) ?_
              rotate_left
              · intro W hSw
                go_simp
                all_goals with_reducible rfl
              try simp only [Act.put, List.setIfInBounds_toArray, List.set_cons_zero, List.set_cons_succ]
              refine wpAnyH_take (i := 2) (v := ?_) rfl (by kernel_rfl) (by kernel_rfl) (by kernel_rfl) (fun _ _ _ h => h) (Or.inl ⟨by kernel_rfl, ?_⟩) (trivial) ?_
              rotate_left
              · intro W hSw
                go_simp
                all_goals with_reducible rfl
              try simp only [Act.put, List.setIfInBounds_toArray, List.set_cons_zero, List.set_cons_succ]
              refine wpAnyH_take (i := 3) (v := ?_) rfl (by kernel_rfl) (by kernel_rfl) (by kernel_rfl) (fun _ _ _ h => h) (Or.inl ⟨by kernel_rfl, ?_⟩) (trivial) ?_
              rotate_left
              · intro W hSw
                go_simp
                all_goals with_reducible rfl
              try simp only [Act.put, List.setIfInBounds_toArray, List.set_cons_zero, List.set_cons_succ]
              refine wpAnyH_take (i := 4) (v := ?_) rfl (by kernel_rfl) (by kernel_rfl) (by kernel_rfl) (fun _ _ _ h => h) (Or.inl ⟨by kernel_rfl, ?_⟩) (trivial) ?_
              rotate_left
              · intro W hSw
                go_simp
                all_goals with_reducible rfl
              try simp only [Act.put, List.setIfInBounds_toArray, List.set_cons_zero, List.set_cons_succ]
              refine wpAnyH_take (i := 5) (v := ?_) rfl (by kernel_rfl) (by kernel_rfl) (by kernel_rfl) (fun _ _ _ h => h) (Or.inl ⟨by kernel_rfl, ?_⟩) (trivial) ?_
              rotate_left
              · intro W hSw
                go_simp
                all_goals with_reducible rfl
              try simp only [Act.put, List.setIfInBounds_toArray, List.set_cons_zero, List.set_cons_succ]
              refine wpAnyH_ready (rs := [6]) (by kernel_rfl) (by simp) ?_
              refine AllReadyH.cons rfl (fun K hK => ?_) AllReadyH.nil
              go_simp
              refine RW.out.mono ?_
              rintro e w6 ⟨v6, rfl, o6, rcut6, bes6⟩
              have cut6 := cut5.rother rcut5 bes6
              obtain ⟨A1', c1', e1, r1, _, p1⟩ := (O14.out.besides bes6 (by simp; omega)).read
              cases e1
              obtain ⟨A2, c2, hv6, r2, _, p2⟩ := o6.read
              subst hv6
              have SM := Lib.hid (same_yes T1 A1 A2 c1 c2 w6 p1 p2 r1 r2)
              have z6 := bes6.size
              have b6 : Below w.heap.size w w6 := b5.trans (bes6.to_below (by simp; omega) b5.size)
              go_wp2_with fail
              refine hK.out _ _ (trivial) (fun _ => ?_)
              clear hK K
              try simp only [Act.put, List.setIfInBounds_toArray, List.set_cons_zero, List.set_cons_succ]
              refine wpAnyH_ready (rs := [7]) (by kernel_rfl) (by simp) ?_
              refine AllReadyH.cons rfl (fun K hK => ?_) AllReadyH.nil
              go_simp
              refine SM.out.mono ?_
              rintro e w7 ⟨rfl, b7⟩
              have cut7 := cut6.below b7
              have rcut7 := rcut6.below b7
              have b70 : Below w.heap.size w w7 := b6.trans (b7.mono b6.size)
              have R7 := Lib.hid rcut7
              obtain ⟨B3, c3, kk, _⟩ := rcut7
              have kk3 := (kk (⟨g2, 3, none⟩, .slice B3 T2.length c3) (by simp)).1
              dsimp only at kk3
              have LF := Lib.hid (LEFT.out g1 T2 w7 cut7)
              clear kk
              go_wp2_with fail
              refine hK.out _ _ (trivial) (fun _ => ?_)
              clear hK K
              try simp only [Act.put, List.setIfInBounds_toArray, List.set_cons_zero, List.set_cons_succ]
              refine wpAnyH_of (S2 := fun W => W.cell? ⟨g2, 3, none⟩ = some (.slice B3 T2.length c3)) (fun _ _ => trivial) _ _ _ _ ?_
              refine wpAnyH_take (i := 8) (v := ?_) rfl (by kernel_rfl) (by kernel_rfl) (by kernel_rfl) (fun _ _ _ h => h) (Or.inl ⟨by kernel_rfl, ?_⟩) (kk3) ?_
              rotate_left
              · intro W hSw
                go_simp
                all_goals with_reducible rfl
              try simp only [Act.put, List.setIfInBounds_toArray, List.set_cons_zero, List.set_cons_succ]
              refine wpAnyH_take (i := 9) (v := ?_) rfl (by kernel_rfl) (by kernel_rfl) (by kernel_rfl) (fun _ _ _ h => h) (Or.inl ⟨by kernel_rfl, ?_⟩) (kk3) ?_
              rotate_left
              · intro W hSw
                go_simp
                all_goals with_reducible rfl
              try simp only [Act.put, List.setIfInBounds_toArray, List.set_cons_zero, List.set_cons_succ]
              refine wpAnyH_take (i := 10) (v := ?_) rfl (by kernel_rfl) (by kernel_rfl) (by kernel_rfl) (fun _ _ _ h => h) (Or.inl ⟨by kernel_rfl, ?_⟩) (kk3) ?_
              rotate_left
              · intro W hSw
                go_simp
                all_goals with_reducible rfl
              try simp only [Act.put, List.setIfInBounds_toArray, List.set_cons_zero, List.set_cons_succ]
              refine wpAnyH_take (i := 11) (v := ?_) rfl (by kernel_rfl) (by kernel_rfl) (by kernel_rfl) (fun _ _ _ h => h) (Or.inl ⟨by kernel_rfl, ?_⟩) (kk3) ?_
              rotate_left
              · intro W hSw
                go_simp
                all_goals with_reducible rfl
              try simp only [Act.put, List.setIfInBounds_toArray, List.set_cons_zero, List.set_cons_succ]
              refine wpAnyH_take (i := 13) (v := ?_) rfl (by kernel_rfl) (by kernel_rfl) (by kernel_rfl) (fun _ _ _ h => h) (Or.inl ⟨by kernel_rfl, ?_⟩) (kk3) ?_
              rotate_left
              · intro W hSw
                go_simp
                all_goals with_reducible rfl
              try simp only [Act.put, List.setIfInBounds_toArray, List.set_cons_zero, List.set_cons_succ]
              refine wpAnyH_take (i := 14) (v := ?_) rfl (by kernel_rfl) (by kernel_rfl) (by kernel_rfl) (fun _ _ _ h => h) (Or.inl ⟨by kernel_rfl, ?_⟩) (kk3) ?_
              rotate_left
              · intro W hSw
                go_simp
                all_goals with_reducible rfl
              try simp only [Act.put, List.setIfInBounds_toArray, List.set_cons_zero, List.set_cons_succ]
              refine wpAnyH_take (i := 15) (v := ?_) rfl (by kernel_rfl) (by kernel_rfl) (by kernel_rfl) (fun _ _ _ h => h) (Or.inl ⟨by kernel_rfl, ?_⟩) (kk3) ?_
              rotate_left
              · intro W hSw
                go_simp
                all_goals with_reducible rfl
              try simp only [Act.put, List.setIfInBounds_toArray, List.set_cons_zero, List.set_cons_succ]
              refine wpAnyH_take (i := 16) (v := .slice B3 T2.length c3) rfl (by kernel_rfl) (by kernel_rfl) (by kernel_rfl) (fun _ _ _ h => h) (Or.inl ⟨by kernel_rfl, ?_⟩) (kk3) ?_
              · intro W hSw
                go_simp
              try simp only [Act.put, List.setIfInBounds_toArray, List.set_cons_zero, List.set_cons_succ]
              refine wpAnyH_take (i := 17) (v := .int .i64 T2.length) rfl (by kernel_rfl) (by kernel_rfl) (by kernel_rfl) (fun _ _ _ h => h) (Or.inl ⟨by kernel_rfl, ?_⟩) (kk3) ?_
              · intro W hSw
                go_simp
              try simp only [Act.put, List.setIfInBounds_toArray, List.set_cons_zero, List.set_cons_succ]
              refine wpAnyH_ready (rs := [12]) (by kernel_rfl) (by simp) ?_
              refine AllReadyH.cons rfl (fun K hK => ?_) AllReadyH.nil
              go_simp
              refine LF.out.mono ?_
              rintro e w' ⟨rfl, rfl⟩
              go_wp2_with fail
              refine hK.out _ _ (kk3) (fun _ => ?_)
              clear hK K
              try simp only [Act.put, List.setIfInBounds_toArray, List.set_cons_zero, List.set_cons_succ]
              refine wpAnyH_take (i := 18) (v := ?_) rfl (by kernel_rfl) (by kernel_rfl) (by kernel_rfl) (fun _ _ _ h => h) (Or.inl ⟨by kernel_rfl, ?_⟩) (kk3) ?_
              rotate_left
              · intro W hSw
                go_simp
                all_goals with_reducible rfl
              try simp only [Act.put, List.setIfInBounds_toArray, List.set_cons_zero, List.set_cons_succ]
              refine wpAnyH_ready (rs := [19]) (by kernel_rfl) (by simp) ?_
              refine AllReadyH.cons rfl (fun K hK => ?_) AllReadyH.nil
              go_simp
              refine hK.out _ _ (kk3) (fun _ => ?_)
              clear hK K
              try simp only [Act.put, List.setIfInBounds_toArray, List.set_cons_zero, List.set_cons_succ]
              refine wpAnyH_done (by kernel_rfl) ?_ _
              refine NoPanic.normal ?_
              go_wp2
              go_roundw
              case rel => exact ⟨k + 1, T2, by omega, by omega, by go_num, cut7, R7.out, hsh, b70⟩
              case measure => simp [intOf]; omega
            | false =>
              rw [hfk] at hcb
              have hrq : RdB wr A1q q := RdR.below (R' := EqB) HRQ.out hbel (fun _ _ h => h)
              have WRQ := Lib.hid (WR.out g1 L q A1q cq wr hcut hrq hnq hqc (by skip; omega))
              have ck : ∃ c fz, wr.heap[g1]? = some (Obj.cells c 51 fz) := (hcut).kind
              go_upto_region 18 with (first | (go_at_call 10; refine (CUT.out _).mono ?_; rintro e w' ⟨rfl, rfl⟩) | (go_at_call 24; refine WRQ.out.mono ?_; rintro e w5 ⟨v14, rfl, o14, cut5, bes5⟩))
              have rcut5 := (rcut).other ck bes5
              have b5 : Below w.heap.size w w5 := (hbel).trans (bes5.to_below (by simp; omega) (hbel).size)
              have hsh := SHORT.out (L ++ q)
              have RWV := fun (V : World) => RWR.out g2 L q A1q cq V
              obtain ⟨⟨T1, T2⟩, hT⟩ : ∃ T, splitE le mo bi (L ++ q) = T := ⟨_, rfl⟩
              rw [hT] at hsh o14 cut5 RWV
              simp only [] at hsh o14 cut5 RWV
              have zz5 := bes5.size
              have bV0 : Below w5.heap.size w5 w5.drew := (Below.refl _ _).drew
              replace cut5 := cut5.below bV0
              replace rcut5 := rcut5.below bV0
              replace o14 := o14.below bV0
              replace b5 : Below w.heap.size w w5.drew := b5.trans (bV0.mono b5.size)
              obtain ⟨V, hV⟩ : ∃ V, w5.drew = V := ⟨_, rfl⟩
              have zV : w5.heap.size ≤ V.heap.size := by rw [← hV]; exact Nat.le_refl _
              rw [hV] at cut5 rcut5 o14 b5
              obtain ⟨A1, c1, hv14, _⟩ := o14.read
              subst hv14
              have O14 := Lib.hid o14
              have hrV : RdB V A1q q := RdR.below (R' := EqB) HRQ.out b5 (fun _ _ h => h)
              have RW := Lib.hid (RWV V rcut5 hrV hnq hqc (by skip; omega))
              clear hT RWV WRQ o14 bes5 bV0 hrq hrV ck
              refine wp_region_noPanic ?_
              refine wp_region_held_drew (S := fun _ => True) (by kernel_rfl) trivial (fun _ => ?_)
              rw [hV]
              clear hV
              refine wpAnyH_take (i := 0) (v := ?_) rfl (by kernel_rfl) (by kernel_rfl) (by kernel_rfl) (fun _ _ _ h => h) (Or.inl ⟨by kernel_rfl, ?_⟩) (trivial) ?_
              rotate_left
              · intro W hSw
                go_simp
                all_goals with_reducible rfl
              try simp only [Act.put, List.setIfInBounds_toArray, List.set_cons_zero, List.set_cons_succ]
              refine wpAnyH_take (i := 1) (v := ?_) rfl (by kernel_rfl) (by kernel_rfl) (by kernel_rfl) (fun _ _ _ h => h) (Or.inl ⟨by kernel_rfl, ?_⟩) (trivial) ?_
              rotate_left
              · intro W hSw
                go_simp
                all_goals with_reducible rfl
              try simp only [Act.put, List.setIfInBounds_toArray, List.set_cons_zero, List.set_cons_succ]
              refine wpAnyH_take (i := 2) (v := ?_) rfl (by kernel_rfl) (by kernel_rfl) (by kernel_rfl) (fun _ _ _ h => h) (Or.inl ⟨by kernel_rfl, ?_⟩) (trivial) ?_
              rotate_left
              · intro W hSw
                go_simp
                all_goals with_reducible rfl
              try simp only [Act.put, List.setIfInBounds_toArray, List.set_cons_zero, List.set_cons_succ]
              refine wpAnyH_take (i := 3) (v := ?_) rfl (by kernel_rfl) (by kernel_rfl) (by kernel_rfl) (fun _ _ _ h => h) (Or.inl ⟨by kernel_rfl, ?_⟩) (trivial) ?_
              rotate_left
              · intro W hSw
                go_simp
                all_goals with_reducible rfl
              try simp only [Act.put, List.setIfInBounds_toArray, List.set_cons_zero, List.set_cons_succ]
              refine wpAnyH_take (i := 4) (v := ?_) rfl (by kernel_rfl) (by kernel_rfl) (by kernel_rfl) (fun _ _ _ h => h) (Or.inl ⟨by kernel_rfl, ?_⟩) (trivial) ?_
              rotate_left
              · intro W hSw
                go_simp
                all_goals with_reducible rfl
              try simp only [Act.put, List.setIfInBounds_toArray, List.set_cons_zero, List.set_cons_succ]
              refine wpAnyH_take (i := 5) (v := ?_) rfl (by kernel_rfl) (by kernel_rfl) (by kernel_rfl) (fun _ _ _ h => h) (Or.inl ⟨by kernel_rfl, ?_⟩) (trivial) ?_
              rotate_left
              · intro W hSw
                go_simp
                all_goals with_reducible rfl
              try simp only [Act.put, List.setIfInBounds_toArray, List.set_cons_zero, List.set_cons_succ]
              refine wpAnyH_ready (rs := [6]) (by kernel_rfl) (by simp) ?_
              refine AllReadyH.cons rfl (fun K hK => ?_) AllReadyH.nil
              go_simp
              refine RW.out.mono ?_
              rintro e w6 ⟨v6, rfl, o6, rcut6, bes6⟩
              have cut6 := cut5.rother rcut5 bes6
              obtain ⟨A1', c1', e1, r1, _, p1⟩ := (O14.out.besides bes6 (by simp; omega)).read
              cases e1
              obtain ⟨A2, c2, hv6, r2, _, p2⟩ := o6.read
              subst hv6
              have SM := Lib.hid (same_yes T1 A1 A2 c1 c2 w6 p1 p2 r1 r2)
              have z6 := bes6.size
              have b6 : Below w.heap.size w w6 := b5.trans (bes6.to_below (by simp; omega) b5.size)
              go_wp2_with fail
              refine hK.out _ _ (trivial) (fun _ => ?_)
              clear hK K
              try simp only [Act.put, List.setIfInBounds_toArray, List.set_cons_zero, List.set_cons_succ]
              refine wpAnyH_ready (rs := [7]) (by kernel_rfl) (by simp) ?_
              refine AllReadyH.cons rfl (fun K hK => ?_) AllReadyH.nil
              go_simp
              refine SM.out.mono ?_
              rintro e w7 ⟨rfl, b7⟩
              have cut7 := cut6.below b7
              have rcut7 := rcut6.below b7
              have b70 : Below w.heap.size w w7 := b6.trans (b7.mono b6.size)
              have R7 := Lib.hid rcut7
              obtain ⟨B3, c3, kk, _⟩ := rcut7
              have kk3 := (kk (⟨g2, 3, none⟩, .slice B3 T2.length c3) (by simp)).1
              dsimp only at kk3
              have LF := Lib.hid (LEFT.out g1 T2 w7 cut7)
              clear kk
              go_wp2_with fail
              refine hK.out _ _ (trivial) (fun _ => ?_)
              clear hK K
              try simp only [Act.put, List.setIfInBounds_toArray, List.set_cons_zero, List.set_cons_succ]
              refine wpAnyH_of (S2 := fun W => W.cell? ⟨g2, 3, none⟩ = some (.slice B3 T2.length c3)) (fun _ _ => trivial) _ _ _ _ ?_
              refine wpAnyH_take (i := 8) (v := ?_) rfl (by kernel_rfl) (by kernel_rfl) (by kernel_rfl) (fun _ _ _ h => h) (Or.inl ⟨by kernel_rfl, ?_⟩) (kk3) ?_
              rotate_left
              · intro W hSw
                go_simp
                all_goals with_reducible rfl
              try simp only [Act.put, List.setIfInBounds_toArray, List.set_cons_zero, List.set_cons_succ]
              refine wpAnyH_take (i := 9) (v := ?_) rfl (by kernel_rfl) (by kernel_rfl) (by kernel_rfl) (fun _ _ _ h => h) (Or.inl ⟨by kernel_rfl, ?_⟩) (kk3) ?_
              rotate_left
              · intro W hSw
                go_simp
                all_goals with_reducible rfl
              try simp only [Act.put, List.setIfInBounds_toArray, List.set_cons_zero, List.set_cons_succ]
              refine wpAnyH_take (i := 10) (v := ?_) rfl (by kernel_rfl) (by kernel_rfl) (by kernel_rfl) (fun _ _ _ h => h) (Or.inl ⟨by kernel_rfl, ?_⟩) (kk3) ?_
              rotate_left
              · intro W hSw
                go_simp
                all_goals with_reducible rfl
              try simp only [Act.put, List.setIfInBounds_toArray, List.set_cons_zero, List.set_cons_succ]
              refine wpAnyH_take (i := 11) (v := ?_) rfl (by kernel_rfl) (by kernel_rfl) (by kernel_rfl) (fun _ _ _ h => h) (Or.inl ⟨by kernel_rfl, ?_⟩) (kk3) ?_
              rotate_left
              · intro W hSw
                go_simp
                all_goals with_reducible rfl
              try simp only [Act.put, List.setIfInBounds_toArray, List.set_cons_zero, List.set_cons_succ]
              refine wpAnyH_take (i := 13) (v := ?_) rfl (by kernel_rfl) (by kernel_rfl) (by kernel_rfl) (fun _ _ _ h => h) (Or.inl ⟨by kernel_rfl, ?_⟩) (kk3) ?_
              rotate_left
              · intro W hSw
                go_simp
                all_goals with_reducible rfl
              try simp only [Act.put, List.setIfInBounds_toArray, List.set_cons_zero, List.set_cons_succ]
              refine wpAnyH_take (i := 14) (v := ?_) rfl (by kernel_rfl) (by kernel_rfl) (by kernel_rfl) (fun _ _ _ h => h) (Or.inl ⟨by kernel_rfl, ?_⟩) (kk3) ?_
              rotate_left
              · intro W hSw
                go_simp
                all_goals with_reducible rfl
              try simp only [Act.put, List.setIfInBounds_toArray, List.set_cons_zero, List.set_cons_succ]
              refine wpAnyH_take (i := 15) (v := ?_) rfl (by kernel_rfl) (by kernel_rfl) (by kernel_rfl) (fun _ _ _ h => h) (Or.inl ⟨by kernel_rfl, ?_⟩) (kk3) ?_
              rotate_left
              · intro W hSw
                go_simp
                all_goals with_reducible rfl
              try simp only [Act.put, List.setIfInBounds_toArray, List.set_cons_zero, List.set_cons_succ]
              refine wpAnyH_take (i := 16) (v := .slice B3 T2.length c3) rfl (by kernel_rfl) (by kernel_rfl) (by kernel_rfl) (fun _ _ _ h => h) (Or.inl ⟨by kernel_rfl, ?_⟩) (kk3) ?_
              · intro W hSw
                go_simp
              try simp only [Act.put, List.setIfInBounds_toArray, List.set_cons_zero, List.set_cons_succ]
              refine wpAnyH_take (i := 17) (v := .int .i64 T2.length) rfl (by kernel_rfl) (by kernel_rfl) (by kernel_rfl) (fun _ _ _ h => h) (Or.inl ⟨by kernel_rfl, ?_⟩) (kk3) ?_
              · intro W hSw
                go_simp
              try simp only [Act.put, List.setIfInBounds_toArray, List.set_cons_zero, List.set_cons_succ]
              refine wpAnyH_ready (rs := [12]) (by kernel_rfl) (by simp) ?_
              refine AllReadyH.cons rfl (fun K hK => ?_) AllReadyH.nil
              go_simp
              refine LF.out.mono ?_
              rintro e w' ⟨rfl, rfl⟩
              go_wp2_with fail
              refine hK.out _ _ (kk3) (fun _ => ?_)
              clear hK K
              try simp only [Act.put, List.setIfInBounds_toArray, List.set_cons_zero, List.set_cons_succ]
              refine wpAnyH_take (i := 18) (v := ?_) rfl (by kernel_rfl) (by kernel_rfl) (by kernel_rfl) (fun _ _ _ h => h) (Or.inl ⟨by kernel_rfl, ?_⟩) (kk3) ?_
              rotate_left
              · intro W hSw
                go_simp
                all_goals with_reducible rfl
              try simp only [Act.put, List.setIfInBounds_toArray, List.set_cons_zero, List.set_cons_succ]
              refine wpAnyH_ready (rs := [19]) (by kernel_rfl) (by simp) ?_
              refine AllReadyH.cons rfl (fun K hK => ?_) AllReadyH.nil
              go_simp
              refine hK.out _ _ (kk3) (fun _ => ?_)
              clear hK K
              try simp only [Act.put, List.setIfInBounds_toArray, List.set_cons_zero, List.set_cons_succ]
              refine wpAnyH_done (by kernel_rfl) ?_ _
              refine NoPanic.normal ?_
              go_wp2
              go_roundw
              case rel => exact ⟨k + 1, T2, by omega, by omega, by go_num, cut7, R7.out, hsh, b70⟩
              case measure => simp [intOf]; omega
          · have hf' : ¬ ((k : Int) < fs.length) := by omega
            have hrq : RdB wr A1q q := RdR.below (R' := EqB) HRQ.out hbel (fun _ _ h => h)
            have WRQ := Lib.hid (WR.out g1 L q A1q cq wr hcut hrq hnq hqc (by skip; omega))
            have ck : ∃ c fz, wr.heap[g1]? = some (Obj.cells c 51 fz) := (hcut).kind
            go_upto_region 18 with (first | (go_at_call 10; refine (CUT.out _).mono ?_; rintro e w' ⟨rfl, rfl⟩) | (go_at_call 24; refine WRQ.out.mono ?_; rintro e w5 ⟨v14, rfl, o14, cut5, bes5⟩))
            have rcut5 := (rcut).other ck bes5
            have b5 : Below w.heap.size w w5 := (hbel).trans (bes5.to_below (by simp; omega) (hbel).size)
            have hsh := SHORT.out (L ++ q)
            have RWV := fun (V : World) => RWR.out g2 L q A1q cq V
            obtain ⟨⟨T1, T2⟩, hT⟩ : ∃ T, splitE le mo bi (L ++ q) = T := ⟨_, rfl⟩
            rw [hT] at hsh o14 cut5 RWV
            simp only [] at hsh o14 cut5 RWV
            have zz5 := bes5.size
            have bV0 : Below w5.heap.size w5 w5.drew := (Below.refl _ _).drew
            replace cut5 := cut5.below bV0
            replace rcut5 := rcut5.below bV0
            replace o14 := o14.below bV0
            replace b5 : Below w.heap.size w w5.drew := b5.trans (bV0.mono b5.size)
            obtain ⟨V, hV⟩ : ∃ V, w5.drew = V := ⟨_, rfl⟩
            have zV : w5.heap.size ≤ V.heap.size := by rw [← hV]; exact Nat.le_refl _
            rw [hV] at cut5 rcut5 o14 b5
            obtain ⟨A1, c1, hv14, _⟩ := o14.read
            subst hv14
            have O14 := Lib.hid o14
            have hrV : RdB V A1q q := RdR.below (R' := EqB) HRQ.out b5 (fun _ _ h => h)
            have RW := Lib.hid (RWV V rcut5 hrV hnq hqc (by skip; omega))
            clear hT RWV WRQ o14 bes5 bV0 hrq hrV ck
            refine wp_region_noPanic ?_
            refine wp_region_held_drew (S := fun _ => True) (by kernel_rfl) trivial (fun _ => ?_)
            rw [hV]
            clear hV
            refine wpAnyH_take (i := 0) (v := ?_) rfl (by kernel_rfl) (by kernel_rfl) (by kernel_rfl) (fun _ _ _ h => h) (Or.inl ⟨by kernel_rfl, ?_⟩) (trivial) ?_
            rotate_left
            · intro W hSw
              go_simp
              all_goals with_reducible rfl
            try simp only [Act.put, List.setIfInBounds_toArray, List.set_cons_zero, List.set_cons_succ]
            refine wpAnyH_take (i := 1) (v := ?_) rfl (by kernel_rfl) (by kernel_rfl) (by kernel_rfl) (fun _ _ _ h => h) (Or.inl ⟨by kernel_rfl, ?_⟩) (trivial) ?_
            rotate_left
            · intro W hSw
              go_simp
              all_goals with_reducible rfl
            try simp only [Act.put, List.setIfInBounds_toArray, List.set_cons_zero, List.set_cons_succ]
            refine wpAnyH_take (i := 2) (v := ?_) rfl (by kernel_rfl) (by kernel_rfl) (by kernel_rfl) (fun _ _ _ h => h) (Or.inl ⟨by kernel_rfl, ?_⟩) (trivial) ?_
            rotate_left
            · intro W hSw
              go_simp
              all_goals with_reducible rfl
            try simp only [Act.put, List.setIfInBounds_toArray, List.set_cons_zero, List.set_cons_succ]
            refine wpAnyH_take (i := 3) (v := ?_) rfl (by kernel_rfl) (by kernel_rfl) (by kernel_rfl) (fun _ _ _ h => h) (Or.inl ⟨by kernel_rfl, ?_⟩) (trivial) ?_
            rotate_left
            · intro W hSw
              go_simp
              all_goals with_reducible rfl
            try simp only [Act.put, List.setIfInBounds_toArray, List.set_cons_zero, List.set_cons_succ]
            refine wpAnyH_take (i := 4) (v := ?_) rfl (by kernel_rfl) (by kernel_rfl) (by kernel_rfl) (fun _ _ _ h => h) (Or.inl ⟨by kernel_rfl, ?_⟩) (trivial) ?_
            rotate_left
            · intro W hSw
              go_simp
              all_goals with_reducible rfl
            try simp only [Act.put, List.setIfInBounds_toArray, List.set_cons_zero, List.set_cons_succ]
            refine wpAnyH_take (i := 5) (v := ?_) rfl (by kernel_rfl) (by kernel_rfl) (by kernel_rfl) (fun _ _ _ h => h) (Or.inl ⟨by kernel_rfl, ?_⟩) (trivial) ?_
            rotate_left
            · intro W hSw
              go_simp
              all_goals with_reducible rfl
            try simp only [Act.put, List.setIfInBounds_toArray, List.set_cons_zero, List.set_cons_succ]
            refine wpAnyH_ready (rs := [6]) (by kernel_rfl) (by simp) ?_
            refine AllReadyH.cons rfl (fun K hK => ?_) AllReadyH.nil
            go_simp
            refine RW.out.mono ?_
            rintro e w6 ⟨v6, rfl, o6, rcut6, bes6⟩
            have cut6 := cut5.rother rcut5 bes6
            obtain ⟨A1', c1', e1, r1, _, p1⟩ := (O14.out.besides bes6 (by simp; omega)).read
            cases e1
            obtain ⟨A2, c2, hv6, r2, _, p2⟩ := o6.read
            subst hv6
            have SM := Lib.hid (same_yes T1 A1 A2 c1 c2 w6 p1 p2 r1 r2)
            have z6 := bes6.size
            have b6 : Below w.heap.size w w6 := b5.trans (bes6.to_below (by simp; omega) b5.size)
            go_wp2_with fail
            refine hK.out _ _ (trivial) (fun _ => ?_)
            clear hK K
            try simp only [Act.put, List.setIfInBounds_toArray, List.set_cons_zero, List.set_cons_succ]
            refine wpAnyH_ready (rs := [7]) (by kernel_rfl) (by simp) ?_
            refine AllReadyH.cons rfl (fun K hK => ?_) AllReadyH.nil
            go_simp
            refine SM.out.mono ?_
            rintro e w7 ⟨rfl, b7⟩
            have cut7 := cut6.below b7
            have rcut7 := rcut6.below b7
            have b70 : Below w.heap.size w w7 := b6.trans (b7.mono b6.size)
            have R7 := Lib.hid rcut7
            obtain ⟨B3, c3, kk, _⟩ := rcut7
            have kk3 := (kk (⟨g2, 3, none⟩, .slice B3 T2.length c3) (by simp)).1
            dsimp only at kk3
            have LF := Lib.hid (LEFT.out g1 T2 w7 cut7)
            clear kk
            go_wp2_with fail
            refine hK.out _ _ (trivial) (fun _ => ?_)
            clear hK K
            try simp only [Act.put, List.setIfInBounds_toArray, List.set_cons_zero, List.set_cons_succ]
            refine wpAnyH_of (S2 := fun W => W.cell? ⟨g2, 3, none⟩ = some (.slice B3 T2.length c3)) (fun _ _ => trivial) _ _ _ _ ?_
            refine wpAnyH_take (i := 8) (v := ?_) rfl (by kernel_rfl) (by kernel_rfl) (by kernel_rfl) (fun _ _ _ h => h) (Or.inl ⟨by kernel_rfl, ?_⟩) (kk3) ?_
            rotate_left
            · intro W hSw
              go_simp
              all_goals with_reducible rfl
            try simp only [Act.put, List.setIfInBounds_toArray, List.set_cons_zero, List.set_cons_succ]
            refine wpAnyH_take (i := 9) (v := ?_) rfl (by kernel_rfl) (by kernel_rfl) (by kernel_rfl) (fun _ _ _ h => h) (Or.inl ⟨by kernel_rfl, ?_⟩) (kk3) ?_
            rotate_left
            · intro W hSw
              go_simp
              all_goals with_reducible rfl
            try simp only [Act.put, List.setIfInBounds_toArray, List.set_cons_zero, List.set_cons_succ]
            refine wpAnyH_take (i := 10) (v := ?_) rfl (by kernel_rfl) (by kernel_rfl) (by kernel_rfl) (fun _ _ _ h => h) (Or.inl ⟨by kernel_rfl, ?_⟩) (kk3) ?_
            rotate_left
            · intro W hSw
              go_simp
              all_goals with_reducible rfl
            try simp only [Act.put, List.setIfInBounds_toArray, List.set_cons_zero, List.set_cons_succ]
            refine wpAnyH_take (i := 11) (v := ?_) rfl (by kernel_rfl) (by kernel_rfl) (by kernel_rfl) (fun _ _ _ h => h) (Or.inl ⟨by kernel_rfl, ?_⟩) (kk3) ?_
            rotate_left
            · intro W hSw
              go_simp
              all_goals with_reducible rfl
            try simp only [Act.put, List.setIfInBounds_toArray, List.set_cons_zero, List.set_cons_succ]
            refine wpAnyH_take (i := 13) (v := ?_) rfl (by kernel_rfl) (by kernel_rfl) (by kernel_rfl) (fun _ _ _ h => h) (Or.inl ⟨by kernel_rfl, ?_⟩) (kk3) ?_
            rotate_left
            · intro W hSw
              go_simp
              all_goals with_reducible rfl
            try simp only [Act.put, List.setIfInBounds_toArray, List.set_cons_zero, List.set_cons_succ]
            refine wpAnyH_take (i := 14) (v := ?_) rfl (by kernel_rfl) (by kernel_rfl) (by kernel_rfl) (fun _ _ _ h => h) (Or.inl ⟨by kernel_rfl, ?_⟩) (kk3) ?_
            rotate_left
            · intro W hSw
              go_simp
              all_goals with_reducible rfl
            try simp only [Act.put, List.setIfInBounds_toArray, List.set_cons_zero, List.set_cons_succ]
            refine wpAnyH_take (i := 15) (v := ?_) rfl (by kernel_rfl) (by kernel_rfl) (by kernel_rfl) (fun _ _ _ h => h) (Or.inl ⟨by kernel_rfl, ?_⟩) (kk3) ?_
            rotate_left
            · intro W hSw
              go_simp
              all_goals with_reducible rfl
            try simp only [Act.put, List.setIfInBounds_toArray, List.set_cons_zero, List.set_cons_succ]
            refine wpAnyH_take (i := 16) (v := .slice B3 T2.length c3) rfl (by kernel_rfl) (by kernel_rfl) (by kernel_rfl) (fun _ _ _ h => h) (Or.inl ⟨by kernel_rfl, ?_⟩) (kk3) ?_
            · intro W hSw
              go_simp
            try simp only [Act.put, List.setIfInBounds_toArray, List.set_cons_zero, List.set_cons_succ]
            refine wpAnyH_take (i := 17) (v := .int .i64 T2.length) rfl (by kernel_rfl) (by kernel_rfl) (by kernel_rfl) (fun _ _ _ h => h) (Or.inl ⟨by kernel_rfl, ?_⟩) (kk3) ?_
            · intro W hSw
              go_simp
            try simp only [Act.put, List.setIfInBounds_toArray, List.set_cons_zero, List.set_cons_succ]
            refine wpAnyH_ready (rs := [12]) (by kernel_rfl) (by simp) ?_
            refine AllReadyH.cons rfl (fun K hK => ?_) AllReadyH.nil
            go_simp
            refine LF.out.mono ?_
            rintro e w' ⟨rfl, rfl⟩
            go_wp2_with fail
            refine hK.out _ _ (kk3) (fun _ => ?_)
            clear hK K
            try simp only [Act.put, List.setIfInBounds_toArray, List.set_cons_zero, List.set_cons_succ]
            refine wpAnyH_take (i := 18) (v := ?_) rfl (by kernel_rfl) (by kernel_rfl) (by kernel_rfl) (fun _ _ _ h => h) (Or.inl ⟨by kernel_rfl, ?_⟩) (kk3) ?_
            rotate_left
            · intro W hSw
              go_simp
              all_goals with_reducible rfl
            try simp only [Act.put, List.setIfInBounds_toArray, List.set_cons_zero, List.set_cons_succ]
            refine wpAnyH_ready (rs := [19]) (by kernel_rfl) (by simp) ?_
            refine AllReadyH.cons rfl (fun K hK => ?_) AllReadyH.nil
            go_simp
            refine hK.out _ _ (kk3) (fun _ => ?_)
            clear hK K
            try simp only [Act.put, List.setIfInBounds_toArray, List.set_cons_zero, List.set_cons_succ]
            refine wpAnyH_done (by kernel_rfl) ?_ _
            refine NoPanic.normal ?_
            go_wp2
            go_roundw
            case rel => exact ⟨k + 1, T2, by omega, by omega, by go_num, cut7, R7.out, hsh, b70⟩
            case measure => simp [intOf]; omega
        · have hlt' : (k : Int) < ps.length := by omega
          have hlt4' : ¬ ((k : Int) < 40) := by omega
          go_wp2
          go_ret
          exact ⟨rfl, hbel⟩
      · have hlt' : ¬ ((k : Int) < ps.length) := by omega
        go_wp2
        go_ret
        exact ⟨rfl, hbel⟩
  · have HB := Lib.hid (fun w => new_bad le mo bi w hok)
    have HC := Lib.hid (show checkC le mo bi = 80 by rw [checkC, if_neg hok])
    clear hra hrb hok
    go_enter Try.func8, Try.ntmps8
    go_wp2_with (first | (go_at_call 15; refine (awake_any _).mono ?_; rintro e w1 ⟨rfl, ba⟩; have b1 := b0.trans (ba.mono b0.size); have d0 := keepB ba (show (w.alloc (confO le mo bi)).cell? ⟨w.heap.size, 0, none⟩ = some (.int .i64 le) by simp [go_sem]); have d1 := keepB ba (show (w.alloc (confO le mo bi)).cell? ⟨w.heap.size, 1, none⟩ = some (.int .i64 mo) by simp [go_sem]); have d2 := keepB ba (show (w.alloc (confO le mo bi)).cell? ⟨w.heap.size, 2, none⟩ = some (.int .i64 bi) by simp [go_sem])) | (go_at_call 22; refine (HB.out _).mono ?_; rintro e w2 ⟨rfl, bn1⟩; have f0 := keepB bn1 d0; have f1 := keepB bn1 d1; have f2 := keepB bn1 d2) | (go_at_call 16; refine (rcheck_any le mo bi _).mono ?_; rintro e w' ⟨rfl, rfl⟩; rw [HC.out]))
    go_ret
    have b2 := b1.trans (bn1.mono b1.size)
    exact ⟨rfl, b2.alloc b2.size _⟩
end Go.Proofs.Ytpdigpfjmpaooaa
