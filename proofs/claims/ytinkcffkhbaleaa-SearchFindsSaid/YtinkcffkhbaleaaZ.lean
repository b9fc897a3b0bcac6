import Derived.Test.YtinkcffkhbaleaaQ
/-! search.Find. -/
namespace Go.Proofs.Ytinkcffkhbaleaa
open Go.RowKit Go.Shelf
attribute [local go_sem] Oper.semAt_some wide_fn wide_depth
set_option linter.unusedVariables false
set_option linter.unusedSimpArgs false
set_option maxRecDepth 100000 in
set_option maxHeartbeats 4000000 in
theorem find_any (la lb : List (List (BitVec 8))) (A B : Option Addr) (ca cb : Nat) (w : World) (ra : RdD w A la) (rb : RdD w B lb) (la3 : la.length ≤ 3000) (lb3 : lb.length ≤ 3000) (T : Int × Int × Nat) (hT : Ends (alD la lb) (0, begHi la.length lb.length, 0) T) :
    Calls Try.prog 23 #[.slice A la.length ca, .slice B lb.length cb] w fun e w' => e = .returned (.tuple #[.int .i64 T.1, .int .i64 (T.2.2 : Nat)]) ∧ Below w.heap.size w w' := by
  have hle := begHi_le la.length lb.length
  have hok0 := okBegin (la.length : Int) lb.length
  have BG := fun w => begin_any (la.length : Int) lb.length w (by omega) (by omega)
  generalize begHi (la.length : Int) lb.length = H0 at *
  replace BG := Lib.hid BG
  have HT := Lib.hid hT
  have HA := Lib.hid ra
  have HB := Lib.hid rb
  clear hT ra rb
  refine (callsIn_wide (n := 5)).1 (callsIn_of_wp_marks Try.func23 rfl trivial ?_ rfl)
  simp only [Try.ntmps23, List.size_toArray, List.length_cons, List.length_nil, Nat.reduceAdd, Nat.reduceSub, Array.replicate_succ, Array.replicate_zero, List.push_toArray, List.append_toArray, List.nil_append, List.cons_append]
  gi_wp2_with (first | (gi_at_call 13; refine (callsIn_wide.2 (BG.out _)).mono ?_; rintro e w' ⟨rfl, rfl⟩) | (gi_at_call 28; refine (callsIn_wide.2 (questions_any _ _)).mono ?_; rintro e w' ⟨rfl, rfl⟩))
  obtain ⟨W0, hW0⟩ : ∃ W0, W0 = ((((((w.alloc (Obj.cells #[Value.slice A la.length ca] 40)).alloc (Obj.cells #[Value.slice B lb.length cb] 40)).alloc (spanO 0 H0)).alloc (Obj.cells #[Value.int IntKind.i64 0, Value.int IntKind.i64 H0] 23)).alloc (Obj.cells #[Value.int IntKind.i64 0] 3)).alloc (Obj.cells #[Value.pointer (some { block := w.heap.size + 1 + 1 + 1, off := 0 })] 54)) := ⟨_, rfl⟩
  rw [← hW0]
  obtain ⟨g2, hg2⟩ : ∃ g, w.heap.size = g := ⟨_, rfl⟩
  obtain ⟨g3, hg3⟩ : ∃ g, w.heap.size + 1 = g := ⟨_, rfl⟩
  obtain ⟨gs, hgs'⟩ : ∃ g, w.heap.size + 1 + 1 + 1 = g := ⟨_, rfl⟩
  obtain ⟨gn, hgn'⟩ : ∃ g, w.heap.size + 1 + 1 + 1 + 1 = g := ⟨_, rfl⟩
  obtain ⟨bx, hbx'⟩ : ∃ g, w.heap.size + 1 + 1 + 1 + 1 + 1 = g := ⟨_, rfl⟩
  have k0 : Keeps [(⟨g2, 0, none⟩, .slice A la.length ca), (⟨g3, 0, none⟩, .slice B lb.length cb), (⟨gs, 0, none⟩, .int .i64 0), (⟨gs, 1, none⟩, .int .i64 H0), (⟨gn, 0, none⟩, .int .i64 0), (⟨bx, 0, none⟩, .pointer (some ⟨gs, 0, none⟩))] W0 := by
    intro p hp
    simp only [List.mem_cons, List.not_mem_nil, or_false] at hp
    subst hg2 hg3 hgs' hgn' hbx'
    rcases hp with rfl | rfl | rfl | rfl | rfl | rfl <;> (rw [hW0]; simp [go_sem])
  have b0 : Below w.heap.size w W0 := by
    rw [hW0]
    refine ((((((Below.refl _ _).alloc (Nat.le_refl _) _).alloc ?_ _).alloc ?_ _).alloc ?_ _).alloc ?_ _).alloc ?_ _ <;> (simp; try omega)
  have hsz : W0.heap.size = bx + 1 := by rw [hW0, ← hbx']; simp
  have hgs : w.heap.size ≤ gs := by omega
  have hgn : w.heap.size ≤ gn := by omega
  have o1 : g2 < g3 := by omega
  have o2 : g3 < gs := by omega
  have o3 : gs < gn := by omega
  have o4 : gn < bx := by omega
  have hle0 : w.heap.size ≤ W0.heap.size := b0.size
  have ew : w.heap.size ≤ g2 := by omega
  rw [hbx', hgn', hgs', hg3, hg2]
  clear hW0 hg2 hg3 hgs' hgn' hbx'
  have hps : ∀ (x : Int), ((fun q : Int => #[Value.int .i64 q]) x).size = (#[15] : Array Tmp).size := fun _ => rfl
  refine range_law (gf := 29) (lb := #[.pointer (some ⟨bx, 0, none⟩)]) (by omega) rfl (enters_of Try.func29 (by kernel_rfl) rfl) (encs := fun q : Int => #[Value.int .i64 q]) hps
    (I := fun (s : Int × Int × Nat) (W : World) => (okS s.1 s.2.1 ∧ s.2.1 ≤ ((min la.length lb.length : Nat) : Int) + 1 ∧ s.2.2 + leftT s ≤ 31 ∧ Ends (alD la lb) s T) ∧ Below w.heap.size w W ∧ Keeps [(⟨g2, 0, none⟩, .slice A la.length ca), (⟨g3, 0, none⟩, .slice B lb.length cb), (⟨gs, 0, none⟩, .int .i64 s.1), (⟨gs, 1, none⟩, .int .i64 s.2.1), (⟨gn, 0, none⟩, .int .i64 ((s.2.2 : Nat) : Int)), (⟨bx, 0, none⟩, .pointer (some ⟨gs, 0, none⟩))] W)
    (ask := fun s => askS s.1 s.2.1) (step := stepT (alD la lb)) (Stab := fun W W' => Below W.heap.size W W') (s0 := (0, H0, 0)) (Ix := fun _ _ _ => False)
    (iter_any _ (by omega) bx gs (alD la lb) _ ?hI _) (fun _ _ h => others_of_below h) ?hIs (fun _ _ _ _ h _ => h) ?hIput (fun _ _ _ _ _ _ h _ _ _ => h) ?hIalloc ?h0
    (fun q => { tmps := #[.slice A la.length ca, .slice B lb.length cb, .pointer (some ⟨g2, 0, none⟩), .pointer (some ⟨g3, 0, none⟩), .int .i64 0, .int .i64 0, .pointer (some ⟨gs, 0, none⟩), .pointer (some ⟨gn, 0, none⟩), .int .i64 q, .slice A la.length ca, .int .i64 la.length, .slice B lb.length cb, .int .i64 lb.length, spanV 0 H0, .func (.func 29) #[] #[.pointer (some ⟨bx, 0, none⟩)], .int .i64 q, undef, undef, undef, undef, undef, undef, undef, undef, undef, undef, undef, undef, undef, undef, undef, undef, undef, undef, undef], defers := [] }) ?hassign ?hbody ?hdone ?hstop
  case hI =>
    rintro s W ⟨_, _, hk⟩
    exact ⟨(hk (⟨bx, 0, none⟩, _) (by simp)).1, (hk (⟨gs, 0, none⟩, _) (by simp)).1, (hk (⟨gs, 1, none⟩, _) (by simp)).1⟩
  case hIs =>
    rintro s W W' ⟨h1, h2, h3⟩ hb
    exact ⟨h1, h2.trans (hb.mono h2.size), h3.below hb⟩
  case hIput =>
    rintro s W l o o' ⟨h1, h2, h3⟩ hl _ _
    exact ⟨h1, below_put h2 (by omega) _, h3.put l (by simp; omega) _⟩
  case hIalloc =>
    rintro s W o ⟨h1, h2, h3⟩ _
    exact ⟨h1, h2.alloc h2.size _, h3.alloc _⟩
  case h0 => exact ⟨⟨hok0, hle, by have := mostN_le (H0 - 0).toNat; simp only [leftT]; omega, HT.out⟩, b0, k0⟩
  case hassign =>
    intro l x W K hK
    gi_wp2
    exact hK
  case hbody =>
    rintro l ⟨lo, hi, k⟩ q W ⟨⟨hok, hhi, hk, hends⟩, bel, kp⟩ hq
    dsimp only at hok hhi hk kp hq
    obtain ⟨_, h1, hqe⟩ := askS_some hq
    obtain ⟨_, u1, u2, _⟩ := told_up_most lo hi q hok h1 hqe
    obtain ⟨x0, x1, x2⟩ := id hok
    have hends' := hends.step (by rw [hq]; simp)
    obtain ⟨lo', hi', ht, hst, hok2, hm2⟩ := stepT_some (al := alD la lb) (s := (lo, hi, k)) hq
    rw [hst] at hends' hm2
    have hlo' : hi' ≤ ((min la.length lb.length : Nat) : Int) + 1 := by
      have : (toldS lo hi q (alD la lb q)).2 ≤ hi := by
        unfold toldS
        rw [if_pos ⟨hok, u1, u2⟩]
        split <;> simp <;> omega
      rw [ht] at this
      simp at this; omega
    obtain ⟨j, hj⟩ : ∃ j : Nat, (q - 1).toNat = j := ⟨_, rfl⟩
    have hjq : q - 1 = (j : Int) := by omega
    have hja : j < la.length := by omega
    have hwj : IntKind.i64.wrap (j : Int) = (j : Int) := by rw [IntKind.wrap_i64]; omega
    have hjb : j < lb.length := by omega
    have hal : alD la lb q = (la[j] == lb[j]) := by
      unfold alD
      rw [hj]
      simp [List.getD_eq_getElem?_getD, List.getElem?_eq_getElem hja, List.getElem?_eq_getElem hjb]
    rw [hal] at ht
    obtain ⟨ad, rfl, _⟩ := HA.out.load j hja
    obtain ⟨bd, rfl, _⟩ := HB.out.load j hjb
    have LA : ∀ W, Below w.heap.size w W → (Instr.loadAt 47 (.pointer (some (ad.add (j * 32))))).run Try.prog W = .ok (.agg (digV la[j]).toArray) W := by
      intro W hb
      obtain ⟨ad', e, h⟩ := (HA.out.below hb).load j hja
      cases e; exact h
    have LB : ∀ W, Below w.heap.size w W → (Instr.loadAt 47 (.pointer (some (bd.add (j * 32))))).run Try.prog W = .ok (.agg (digV lb[j]).toArray) W := by
      intro W hb
      obtain ⟨ad', e, h⟩ := (HB.out.below hb).load j hjb
      cases e; exact h
    have EQ := eq_digs la[j] lb[j] (HA.out.2 j hja).1 (HB.out.2 j hjb).1
    have hjk : (j : Int) < la.length := by omega
    have hjl : (j : Int) < lb.length := by omega
    generalize la[j] = X at *
    generalize lb[j] = Y at *
    generalize (X == Y) = E at *
    replace LA := Lib.hid LA
    replace LB := Lib.hid LB
    replace EQ := Lib.hid EQ
    have Ht := Lib.hid ht
    have hk31 : k ≤ 31 := by omega
    have Hrest := Lib.hid (And.intro hends' (And.intro hm2 (And.intro hok2 (And.intro hlo' (And.intro hk hst)))))
    clear hends hends' hst hm2 hq hqe ht hok hok2 hlo' hal h1 HT hj hk k0
    have d0 := kp (⟨gs, 0, none⟩, .int .i64 lo) (by simp)
    have d1 := kp (⟨gs, 1, none⟩, .int .i64 hi) (by simp)
    have d2 := kp (⟨gn, 0, none⟩, .int .i64 ((k : Nat) : Int)) (by simp)
    obtain ⟨d00, d01⟩ := id d0
    obtain ⟨d10, d11⟩ := id d1
    obtain ⟨d20, d21⟩ := id d2
    gi_wp2
    obtain ⟨V, hV⟩ : ∃ V, V = W.setCell { block := gn, off := 0 } (Value.int IntKind.i64 ((k : Int) + 1)) := ⟨_, rfl⟩
    have bV : Below w.heap.size w V := by rw [hV]; exact bel.setCell hgn _
    have kn : Keeps [(⟨gn, 0, none⟩, .int .i64 ((k + 1 : Nat) : Int)), (⟨bx, 0, none⟩, .pointer (some ⟨gs, 0, none⟩))] V := by
      have e := kp (⟨bx, 0, none⟩, .pointer (some ⟨gs, 0, none⟩)) (by simp)
      intro p hp
      simp only [List.mem_cons, List.not_mem_nil, or_false] at hp
      rcases hp with rfl | rfl
      · rw [hV]; exact ⟨by simp [go_sem, d20], by simp [go_sem, d21]⟩
      · rw [hV]; exact ⟨by simp [go_sem, e.1, show bx ≠ gn by omega], by simp [go_sem, e.2]⟩
    have kV : Keeps [(⟨g2, 0, none⟩, .slice (some ad) la.length ca), (⟨g3, 0, none⟩, .slice (some bd) lb.length cb)] V := by
      rw [hV]
      refine Keeps.setCell (fun p hp => kp p (by simp at hp ⊢; rcases hp with rfl | rfl <;> simp)) (by simp; omega) _
    have oth : KeepsOthers W V := by rw [hV]; exact KeepsOthers.setCell _ _ _
    have v0 : V.cell? ⟨gs, 0, none⟩ = some (.int .i64 lo) := by rw [hV]; simp [go_sem, d00, show gs ≠ gn by omega]
    have v1 : V.cell? ⟨gs, 1, none⟩ = some (.int .i64 hi) := by rw [hV]; simp [go_sem, d10, show gs ≠ gn by omega]
    have vf0 : V.frozen? ⟨gs, 0, none⟩ = false := by rw [hV]; simp [go_sem, d01]
    have vf1 : V.frozen? ⟨gs, 1, none⟩ = false := by rw [hV]; simp [go_sem, d11]
    rw [← hV]
    have hsV := bV.size
    have hgV : gs < V.heap.size := World.block_lt_of_cell? V _ v0
    have q1 : gs < V.heap.size + 1 := by omega
    have q2 : gs < V.heap.size + 2 := by omega
    have q3 : gs < V.heap.size + 3 := by omega
    clear hV d0 d1 d2 d00 d01 d10 d11 d20 d21 kp bel
    have hS0 : Below w.heap.size w V.drew ∧ Keeps [(⟨g2, 0, none⟩, .slice (some ad) la.length ca), (⟨g3, 0, none⟩, .slice (some bd) lb.length cb)] V.drew := ⟨bV.drew, kV⟩
    refine wpIn_noPanic ?_
    refine wpIn_region_round (fun W => Below w.heap.size w W ∧ Keeps [(⟨g2, 0, none⟩, .slice (some ad) la.length ca), (⟨g3, 0, none⟩, .slice (some bd) lb.length cb)] W) (by kernel_rfl) (by kernel_rfl) (by rintro ⟨_, _, h⟩; exact h) ?_
    refine wpAnyH_take (i := 1) (v := ?_) rfl (by kernel_rfl) (by kernel_rfl) (by kernel_rfl) (fun _ _ _ h => h) (Or.inl ⟨by kernel_rfl, ?_⟩) (hS0) ?_
    rotate_left
    · intro W hSw
      go_simp
      all_goals with_reducible rfl
    try simp only [Act.put, List.setIfInBounds_toArray, List.set_cons_zero, List.set_cons_succ]
    refine wpAnyH_take (i := 2) (v := .slice (some ad) la.length ca) rfl (by kernel_rfl) (by kernel_rfl) (by kernel_rfl) (fun _ _ _ h => h) (Or.inl ⟨by kernel_rfl, ?_⟩) (hS0) ?_
    · intro W hSw
      have h2 := (hSw.2 (⟨g2, 0, none⟩, .slice (some ad) la.length ca) (by simp)).1
      go_simp
    try simp only [Act.put, List.setIfInBounds_toArray, List.set_cons_zero, List.set_cons_succ]
    refine wpAnyH_take (i := 3) (v := ?_) rfl (by kernel_rfl) (by kernel_rfl) (by kernel_rfl) (fun _ _ _ h => h) (Or.inl ⟨by kernel_rfl, ?_⟩) (hS0) ?_
    rotate_left
    · intro W hSw
      go_simp
      all_goals with_reducible rfl
    try simp only [Act.put, List.setIfInBounds_toArray, List.set_cons_zero, List.set_cons_succ]
    refine wpAnyH_take (i := 4) (v := .int .i64 (j : Int)) rfl (by kernel_rfl) (by kernel_rfl) (by kernel_rfl) (fun _ _ _ h => h) (Or.inl ⟨by kernel_rfl, ?_⟩) (hS0) ?_
    · intro W hSw
      go_simp
    try simp only [Act.put, List.setIfInBounds_toArray, List.set_cons_zero, List.set_cons_succ]
    refine wpAnyH_take (i := 5) (v := .pointer (some (ad.add (j * 32)))) rfl (by kernel_rfl) (by kernel_rfl) (by kernel_rfl) (fun _ _ _ h => h) (Or.inl ⟨by kernel_rfl, ?_⟩) (hS0) ?_
    · intro W hSw
      go_simp
    try simp only [Act.put, List.setIfInBounds_toArray, List.set_cons_zero, List.set_cons_succ]
    refine wpAnyH_take (i := 6) (v := .agg (digV X).toArray) rfl (by kernel_rfl) (by kernel_rfl) (by kernel_rfl) (fun _ _ _ h => h) (Or.inl ⟨by kernel_rfl, ?_⟩) (hS0) ?_
    · intro W hSw
      exact exec_load 47 (.tmp 23) (by kernel_rfl) (.pointer (some (ad.add (j * 32)))) (by kernel_rfl) _ (LA.out W hSw.1)
    try simp only [Act.put, List.setIfInBounds_toArray, List.set_cons_zero, List.set_cons_succ]
    refine wpAnyH_take (i := 7) (v := .slice (some bd) lb.length cb) rfl (by kernel_rfl) (by kernel_rfl) (by kernel_rfl) (fun _ _ _ h => h) (Or.inl ⟨by kernel_rfl, ?_⟩) (hS0) ?_
    · intro W hSw
      have h3 := (hSw.2 (⟨g3, 0, none⟩, .slice (some bd) lb.length cb) (by simp)).1
      go_simp
    try simp only [Act.put, List.setIfInBounds_toArray, List.set_cons_zero, List.set_cons_succ]
    refine wpAnyH_take (i := 8) (v := ?_) rfl (by kernel_rfl) (by kernel_rfl) (by kernel_rfl) (fun _ _ _ h => h) (Or.inl ⟨by kernel_rfl, ?_⟩) (hS0) ?_
    rotate_left
    · intro W hSw
      go_simp
      all_goals with_reducible rfl
    try simp only [Act.put, List.setIfInBounds_toArray, List.set_cons_zero, List.set_cons_succ]
    refine wpAnyH_take (i := 9) (v := .int .i64 (j : Int)) rfl (by kernel_rfl) (by kernel_rfl) (by kernel_rfl) (fun _ _ _ h => h) (Or.inl ⟨by kernel_rfl, ?_⟩) (hS0) ?_
    · intro W hSw
      go_simp
    try simp only [Act.put, List.setIfInBounds_toArray, List.set_cons_zero, List.set_cons_succ]
    refine wpAnyH_take (i := 10) (v := .pointer (some (bd.add (j * 32)))) rfl (by kernel_rfl) (by kernel_rfl) (by kernel_rfl) (fun _ _ _ h => h) (Or.inl ⟨by kernel_rfl, ?_⟩) (hS0) ?_
    · intro W hSw
      go_simp
    try simp only [Act.put, List.setIfInBounds_toArray, List.set_cons_zero, List.set_cons_succ]
    refine wpAnyH_take (i := 11) (v := .agg (digV Y).toArray) rfl (by kernel_rfl) (by kernel_rfl) (by kernel_rfl) (fun _ _ _ h => h) (Or.inl ⟨by kernel_rfl, ?_⟩) (hS0) ?_
    · intro W hSw
      exact exec_load 47 (.tmp 28) (by kernel_rfl) (.pointer (some (bd.add (j * 32)))) (by kernel_rfl) _ (LB.out W hSw.1)
    try simp only [Act.put, List.setIfInBounds_toArray, List.set_cons_zero, List.set_cons_succ]
    refine wpAnyH_take (i := 12) (v := .bool E) rfl (by kernel_rfl) (by kernel_rfl) (by kernel_rfl) (fun _ _ _ h => h) (Or.inl ⟨by kernel_rfl, ?_⟩) (hS0) ?_
    · intro W hSw
      have heq := EQ.out W
      go_simp
    try simp only [Act.put, List.setIfInBounds_toArray, List.set_cons_zero, List.set_cons_succ]
    refine wpAnyH_ready (rs := [0]) (by kernel_rfl) (by simp) ?_
    refine AllReadyH.cons rfl (fun K hK => ?_) AllReadyH.nil
    go_simp
    refine hK.out _ _ (hS0) (fun _ => ?_)
    clear hK K
    try simp only [Act.put, List.setIfInBounds_toArray, List.set_cons_zero, List.set_cons_succ]
    refine wpAnyH_ready (rs := [13]) (by kernel_rfl) (by simp) ?_
    refine AllReadyH.cons rfl (fun K hK => ?_) AllReadyH.nil
    go_simp
    refine (told_any lo hi q E _).mono ?_
    rintro e w' ⟨rfl, rfl⟩
    rw [Ht.out]
    go_wp2_with fail
    refine hK.out _ _ (⟨by repeat first | with_reducible exact bV | with_reducible refine Below.drew ?_ | with_reducible refine Below.setCell ?_ hgs _ | with_reducible refine Below.alloc ?_ (by first | exact hsV | (simp; omega)) _, by repeat first | with_reducible exact kV | with_reducible refine Keeps.drew ?_ | with_reducible refine Keeps.alloc ?_ _ | with_reducible refine Keeps.setCell ?_ (by simp; omega) _⟩) (fun _ => ?_)
    clear hK K
    try simp only [Act.put, List.setIfInBounds_toArray, List.set_cons_zero, List.set_cons_succ]
    refine wpAnyH_ready (rs := [14]) (by kernel_rfl) (by simp) ?_
    refine AllReadyH.cons rfl (fun K hK => ?_) AllReadyH.nil
    go_simp
    refine hK.out _ _ (⟨by repeat first | with_reducible exact bV | with_reducible refine Below.drew ?_ | with_reducible refine Below.setCell ?_ hgs _ | with_reducible refine Below.alloc ?_ (by first | exact hsV | (simp; omega)) _, by repeat first | with_reducible exact kV | with_reducible refine Keeps.drew ?_ | with_reducible refine Keeps.alloc ?_ _ | with_reducible refine Keeps.setCell ?_ (by simp; omega) _⟩) (fun _ => ?_)
    clear hK K
    try simp only [Act.put, List.setIfInBounds_toArray, List.set_cons_zero, List.set_cons_succ]
    refine wpAnyH_done (by kernel_rfl) ?_ _
    refine NoPanic.normal ?_
    obtain ⟨U, hU⟩ : ∃ U, U = (((((V.setCell { block := gs, off := 0 } (Value.int IntKind.i64 lo')).setCell { block := gs, off := 1 } (Value.int IntKind.i64 hi')).alloc (spanO lo' hi')).alloc (spanO lo' hi')).alloc (spanO lo hi)).drew := ⟨_, rfl⟩
    rw [← hU]
    have bU : Below w.heap.size w U := by rw [hU]; repeat first | with_reducible exact bV | with_reducible refine Below.drew ?_ | with_reducible refine Below.setCell ?_ hgs _ | with_reducible refine Below.alloc ?_ (by first | exact hsV | (simp; omega)) _
    have kU : Keeps [(⟨g2, 0, none⟩, .slice (some ad) la.length ca), (⟨g3, 0, none⟩, .slice (some bd) lb.length cb)] U := by rw [hU]; repeat first | with_reducible exact kV | with_reducible refine Keeps.drew ?_ | with_reducible refine Keeps.alloc ?_ _ | with_reducible refine Keeps.setCell ?_ (by simp; omega) _
    have knU : Keeps [(⟨gn, 0, none⟩, .int .i64 ((k + 1 : Nat) : Int)), (⟨bx, 0, none⟩, .pointer (some ⟨gs, 0, none⟩))] U := by rw [hU]; repeat first | with_reducible exact kn | with_reducible refine Keeps.drew ?_ | with_reducible refine Keeps.alloc ?_ _ | with_reducible refine Keeps.setCell ?_ (by simp; omega) _
    have oU : KeepsOthers V U := by
      rw [hU]
      exact ((((((KeepsOthers.setCell _ _ _).trans (KeepsOthers.setCell _ _ _)).trans (KeepsOthers.alloc _ _)).trans (KeepsOthers.alloc _ _)).trans (KeepsOthers.alloc _ _)).trans (KeepsOthers.drew _))
    have w0 : U.cell? ⟨gs, 0, none⟩ = some (.int .i64 lo') := by
      rw [hU]
      refine keepD ?_
      repeat with_reducible apply cell_old
      simp [go_sem, v0, v1]
    have w1 : U.cell? ⟨gs, 1, none⟩ = some (.int .i64 hi') := by
      rw [hU]
      refine keepD ?_
      repeat with_reducible apply cell_old
      simp [go_sem, v0, v1]
    have wf0 : U.frozen? ⟨gs, 0, none⟩ = false := by rw [hU]; simp [go_sem, vf0, vf1, q1, q2, q3, hgV]
    have wf1 : U.frozen? ⟨gs, 1, none⟩ = false := by rw [hU]; simp [go_sem, vf0, vf1, q1, q2, q3, hgV]
    clear hU
    obtain ⟨e1, e2, e3, e4, e5, e6⟩ := Hrest.out
    show KeepsOthers W U ∧ _
    rw [e6]
    refine ⟨oth.trans oU, ⟨e3, e4, by simp only at e2 ⊢; omega, e1⟩, bU, ?_⟩
    intro p hp
    simp only [List.mem_cons, List.not_mem_nil, or_false] at hp
    rcases hp with rfl | rfl | rfl | rfl | rfl | rfl
    · exact kU _ (by simp)
    · exact kU _ (by simp)
    · exact ⟨w0, wf0⟩
    · exact ⟨w1, wf1⟩
    · exact knU _ (by simp)
    · exact knU _ (by simp)
  case hdone =>
    rintro D s W hq ⟨⟨hok, hhi, hk, hends⟩, bel, kp⟩ hD hdef
    obtain rfl := hends.done hq
    have c0 := (kp (⟨gs, 0, none⟩, .int .i64 s.1) (by simp)).1
    have c1 := (kp (⟨gn, 0, none⟩, .int .i64 ((s.2.2 : Nat) : Int)) (by simp)).1
    clear hends
    gi_wp2
    refine wpIn_wide.2 ?_
    go_quiet (fail)
    gi_wp2
    refine ⟨by simp, .inl ⟨_, _, rfl, run_takeDeferred (w := W.drewN nq) hdef, ?_⟩⟩
    exact ⟨_, results_tmp2 rfl _ _ _, rfl, below_put (Below.trans bel (B := w.heap.size) ⟨rfl, rfl, rfl, Nat.le_refl _, fun _ _ => rfl⟩ : Below w.heap.size w (W.drewN nq)) (by omega) _⟩
  case hstop =>
    rintro D c s W h
    exact h.elim
end Go.Proofs.Ytinkcffkhbaleaa
