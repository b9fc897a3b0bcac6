import Derived.Test.YtpdigpfjmpaooaaC
/-! roll.Cuts. -/
namespace Go.Proofs.Ytpdigpfjmpaooaa
open Go.RowKit Go.Shelf
attribute [local go_sem] Oper.semAt_some wide_fn wide_depth
set_option linter.unusedVariables false
set_option linter.unusedSimpArgs false
theorem ownsRow_cells {w : World} {B e size n : Nat} {v : Value} {xs : List Value} (h : w.ownsRow B e size v n xs) : ∀ g, v.ownBlock = some g → ∃ c fz, w.heap[g]? = some (.cells c e fz) := by
  intro g hg
  rcases h.2 with ⟨rfl, _⟩ | ⟨g', cap, cur, rfl, _, hgg, _⟩
  · simp [Value.ownBlock] at hg
  · simp [Value.ownBlock] at hg
    subst hg
    exact ⟨_, _, hgg⟩
theorem own_setCell {w : World} {B e size n : Nat} {v : Value} {xs : List Value} (h : w.ownsRow B e size v n xs) {a : Addr} (ha : ∀ g, v.ownBlock = some g → g ≠ a.block) (u : Value) : (w.setCell a u).ownsRow B e size v n xs := by
  refine ⟨h.1, ?_⟩
  rcases h.2 with hn | ⟨g, cap, cur, rfl, hb1, hgg, rest⟩
  · exact .inl hn
  · refine .inr ⟨g, cap, cur, rfl, hb1, ?_, rest⟩
    rw [Below.heap_setCell _ _ _ _ (ha g rfl)]
    exact hgg
def lensC (p : List (List (BitVec 8))) : List Nat := p.map List.length
set_option maxRecDepth 100000 in
set_option maxHeartbeats 4000000 in
theorem cuts_ok (le mo bi : Int) (l : List (BitVec 8)) (A : Option Addr) (cap : Nat) (w : World) (hok : okC le mo bi) (hr : RdB w A l) (hl : l.length ≤ cap) (hs : l.length ≤ 1048576) :
    Calls Try.prog 13 #[confV le mo bi, .slice A l.length cap] w fun e w' => ∃ v, e = .returned (.tuple #[v, .int .i64 0]) ∧ w'.ownsRow w.heap.size 3 1 v (cutsL le mo bi l).length (numsV (cutsL le mo bi l)) ∧ Below w.heap.size w w' := by
  obtain ⟨i0, hi, hz0, hz1, hz2⟩ := info_parts info3
  have HC := Lib.hid (show checkC le mo bi = 0 by rw [checkC, if_pos hok])
  have Hok := Lib.hid hok
  obtain ⟨T, hT⟩ : ∃ T, cutsL le mo bi l = T := ⟨_, rfl⟩
  rw [hT]
  have HT := Lib.hid hT
  have HR := Lib.hid hr
  have hm := hr.1
  clear hok hT hr
  refine (callsIn_wide (n := 5)).1 (callsIn_of_wp_marks Try.func13 rfl trivial ?_ rfl)
  simp only [Try.ntmps13, List.size_toArray, List.length_cons, List.length_nil, Nat.reduceAdd, Nat.reduceSub, Array.replicate_succ, Array.replicate_zero, List.push_toArray, List.append_toArray, List.nil_append, List.cons_append]
  gi_wp2_with (first | (gi_at_call 17; refine (callsIn_wide.2 (check_any le mo bi _)).mono ?_; rintro e w' ⟨rfl, rfl⟩; rw [HC.out]) | (gi_at_call 32; refine (callsIn_wide.2 (chunks_any le mo bi _ _ _ ⟨_, _, _, rfl⟩)).mono ?_; rintro e w' ⟨rfl, rfl⟩))
  obtain ⟨W0, hW0⟩ : ∃ W0, W0 = (((((((w.alloc (Obj.cells #[Value.int IntKind.i64 le, Value.int IntKind.i64 mo, Value.int IntKind.i64 bi] 23)).alloc (confO le mo bi)).alloc (Obj.cells #[Value.slice none 0 0] 29)).alloc (Obj.cells #[Value.slice none 0 0] 24)).alloc (confO le mo bi)).alloc (Obj.cells #[Value.slice A l.length cap] 24)).alloc (Obj.cells #[Value.pointer (some { block := w.heap.size + 1 + 1 + 1, off := 0 })] 70)) := ⟨_, rfl⟩
  rw [← hW0]
  obtain ⟨g2, hg2⟩ : ∃ g, w.heap.size = g := ⟨_, rfl⟩
  obtain ⟨gl, hgl⟩ : ∃ g, w.heap.size + 1 + 1 = g := ⟨_, rfl⟩
  obtain ⟨r, hr'⟩ : ∃ g, w.heap.size + 1 + 1 + 1 = g := ⟨_, rfl⟩
  obtain ⟨bc, hbc⟩ : ∃ g, w.heap.size + 1 + 1 + 1 + 1 = g := ⟨_, rfl⟩
  obtain ⟨bb, hbb⟩ : ∃ g, w.heap.size + 1 + 1 + 1 + 1 + 1 = g := ⟨_, rfl⟩
  obtain ⟨br, hbr⟩ : ∃ g, w.heap.size + 1 + 1 + 1 + 1 + 1 + 1 = g := ⟨_, rfl⟩
  have k0 : Keeps (privC le mo bi bc bb br r ⟨A, cap, l, []⟩) W0 := by
    intro q hq
    simp only [privC, List.mem_cons, List.not_mem_nil, or_false] at hq
    subst hg2 hgl hr' hbc hbb hbr
    rcases hq with rfl | rfl | rfl | rfl | rfl <;> (rw [hW0]; simp [go_sem])
  have k1 : Keeps [(⟨gl, 0, none⟩, .slice none 0 0)] W0 := by
    intro q hq
    simp only [List.mem_cons, List.not_mem_nil, or_false] at hq
    subst hg2 hgl hr' hbc hbb hbr
    subst hq
    rw [hW0]; simp [go_sem]
  have k2 : Var r W0 := by
    subst hg2 hgl hr' hbc hbb hbr
    exact ⟨.slice none 0 0, by rw [hW0]; simp [go_sem], by rw [hW0]; simp [go_sem]⟩
  have b0 : Below w.heap.size w W0 := by
    rw [hW0]
    refine (((((((Below.refl _ _).alloc (Nat.le_refl _) _).alloc ?_ _).alloc ?_ _).alloc ?_ _).alloc ?_ _).alloc ?_ _).alloc ?_ _ <;> (simp; try omega)
  have hsz : W0.heap.size = br + 1 := by rw [hW0, ← hbr]; simp
  have o1 : w.heap.size ≤ g2 := by omega
  have o2 : g2 < gl := by omega
  have o3 : gl < r := by omega
  have o4 : r < bc := by omega
  have o5 : bc < bb := by omega
  have o6 : bb < br := by omega
  rw [hbr, hbb, hbc, hr', hgl, hg2]
  clear hW0 hg2 hgl hr' hbc hbb hbr
  have hps : ∀ (x : Option Addr × Nat), ((fun q : Option Addr × Nat => #[Value.slice q.1 q.2 q.2]) x).size = (#[21] : Array Tmp).size := fun _ => rfl
  refine range_law2 (gf := 35) (lb := #[.pointer (some ⟨bc, 0, none⟩), .pointer (some ⟨bb, 0, none⟩), .pointer (some ⟨br, 0, none⟩)]) (by omega) rfl (enters_of Try.func35 (by kernel_rfl) rfl) (encs := fun q : Option Addr × Nat => #[Value.slice q.1 q.2 q.2]) hps
    (I := fun (s : CS) (W : World) => (lensC s.p ++ cutsL le mo bi s.r = T ∧ RdB w s.B s.r ∧ s.r.length ≤ s.c ∧ s.r.length + s.p.length ≤ 1048576) ∧ Below w.heap.size w W ∧ br < W.heap.size ∧ ∃ v, Keeps [(⟨gl, 0, none⟩, v)] W ∧ W.ownsRow (br + 1) 3 1 v s.p.length (numsV (lensC s.p)))
    (ask := askC le mo bi) (step := stepC le mo bi) (Fix := Fixed (cellsC bc bb br r)) (Stab := Besides [bb, r]) (s0 := ⟨A, cap, l, []⟩) (Start := fun W => Keeps (privC le mo bi bc bb br r ⟨A, cap, l, []⟩) W ∧ Var r W) (End := fun s W => W.cell? ⟨r, 0, none⟩ = some (.slice s.B s.r.length s.c)) (Ix := fun _ _ _ => False)
    (iterC_any _ (by omega) le mo bi Hok.out bc bb br r (by omega) (by omega) (by omega) (by omega) (by omega) _ ?hI _) (fun _ _ h => h.others) ?hIs (fun _ _ _ _ h _ => h) ?hIput (fun _ _ _ _ _ _ h _ _ _ => h) ?hIalloc (fun _ _ _ => Fixed.trans) ?hFput ?hSalloc ?hEput ?h0 ⟨k0, k2⟩
    (fun x => { tmps := #[confV le mo bi, .slice A l.length cap, .pointer (some ⟨g2, 0, none⟩), undef, .slice none 0 0, .int .i64 0, .int .i64 0, .pointer (some ⟨gl, 0, none⟩), .pointer (some ⟨r, 0, none⟩), .slice x.1 x.2 x.2, .agg #[.int .i64 le, .int .i64 mo, .int .i64 bi], .int .i64 0, .int .i64 0, .bool false, undef, .slice A l.length cap, .int .i64 l.length, .bool (decide ((1048576 : Int) < l.length)), .agg #[.int .i64 le, .int .i64 mo, .int .i64 bi], .slice A l.length cap, .func (.func 35) #[] #[.pointer (some ⟨bc, 0, none⟩), .pointer (some ⟨bb, 0, none⟩), .pointer (some ⟨br, 0, none⟩)], .slice x.1 x.2 x.2, undef, undef, undef, undef, undef, undef, undef, undef, undef, undef, undef, undef, undef, undef], defers := [] }) ?hassign ?hbody ?hdone ?hstop
  case hI =>
    rintro s W ⟨⟨_, h2, h3, _⟩, hb, _⟩
    exact ⟨RdR.below (R' := EqB) h2 hb (fun _ _ h => h), h3⟩
  case hIs =>
    rintro s W W' ⟨h1, hb, hs', v, hk, ho⟩ hS
    refine ⟨h1, hb.trans (hS.to_below (by simp; omega) hb.size), by have := hS.size; omega, v, hk.besides hS (by simp; omega), own_besides ho hS (fun g hg => by have := own_base' ho g hg; simp; omega)⟩
  case hIput =>
    rintro s W j o o' ⟨h1, hb, hs', v, hk, ho⟩ hl ho1 ho2
    exact ⟨h1, below_put hb (by omega) _, by simpa using hs', v, hk.put j (by simp; omega) _, ownsRow_putObj ho o' ho1 ho2⟩
  case hIalloc =>
    rintro s W o ⟨h1, hb, hs', v, hk, ho⟩ _
    exact ⟨h1, hb.alloc hb.size _, by simp; omega, v, hk.alloc _, ho.alloc _⟩
  case hFput =>
    rintro W j o o' hl _ _
    exact Fixed.put (by simp [cellsC]; omega) _
  case hSalloc =>
    rintro W o ⟨h1, h2⟩ _
    exact ⟨h1.alloc _, h2.below ((Below.refl _ _).alloc (Nat.le_refl _) _)⟩
  case hEput =>
    rintro s W j o o' h hl _ _
    exact (World.cell?_of_block (World.putObj_heap_other (show r ≠ j by omega))).trans h
  case h0 => exact ⟨⟨HT.out, HR.out, hl, by simpa using hs⟩, b0, by omega, _, k1, World.ownsRow_nil _ _ _ _⟩
  case hassign =>
    intro l x W K hK
    gi_wp2
    exact hK
  case hbody =>
    rintro j ⟨B, c, R, p⟩ x W ⟨⟨h1, h2, h3, h4⟩, hb, hs', v, hk, ho⟩ hask
    dsimp only at h1 h2 h3 h4 ho
    have hbounds := nextL_bounds le mo bi Hok.out R 0 0 (by have := Hok.out; unfold okC at this; simp; omega)
    have hstep : stepC le mo bi ⟨B, c, R, p⟩ = { B := if c = (nextL le mo bi R 0 0).1 then B else Option.map (fun x => x.add (nextL le mo bi R 0 0).1) B, c := c - (nextL le mo bi R 0 0).1, r := R.drop (nextL le mo bi R 0 0).1, p := p ++ [R.take (nextL le mo bi R 0 0).1] } := rfl
    have hcons := fun hp => cutsL_cons le mo bi Hok.out R hp
    have hask' : (if (nextL le mo bi R 0 0).2 then some (B, (nextL le mo bi R 0 0).1) else none) = some x := hask
    obtain ⟨⟨m, ok⟩, hN⟩ : ∃ N, nextL le mo bi R 0 0 = N := ⟨_, rfl⟩
    rw [hN] at hbounds hask' hstep hcons
    simp only at hbounds hask' hstep hcons
    cases ok with
    | false => cases hask'
    | true =>
      obtain rfl : (B, m) = x := by simpa using hask'
      have hm1 := (hbounds.2.2.2.1 rfl).2
      have hm2 : m ≤ R.length := by have := hbounds.2.1; omega
      rw [hcons (by omega)] at h1
      have hdrop := h2.drop m c hm2 h3
      have hlt : (R.take m).length = m := by rw [List.length_take]; omega
      have hld : (R.drop m).length = R.length - m := List.length_drop
      have H1 := Lib.hid h1
      have Hs := Lib.hid hstep
      have Hd := Lib.hid hdrop
      have Hl := Lib.hid (And.intro hlt hld)
      have H2 := Lib.hid h2
      obtain ⟨kc, kf⟩ := hk (⟨gl, 0, none⟩, v) (by simp)
      dsimp only at kc kf
      clear hask hask' hN hbounds hstep hcons h1 hdrop hlt hld h2
      gi_wp2_with (gi_at_builtin; go_loud (refine wpListIn_append_own _ rfl (.tmp 22) (.tmp 25) 29 rfl (br + 1) 3 i0 (.int .i64 0) 1 8 Try.underlying29 hi hz0 hz1 hz2 rfl (by decide) _ _ _ rfl (ho.alloc _) ⟨W.heap.size, 0, none⟩ 1 1 [.int .i64 (m : Int)] rfl rfl (cell_one_new _ _ _) (oneI _) (by unfold maxLen; omega) (by omega) (by simp; omega) ?_; intro v' w2 own2 grow2 _; obtain ⟨g', cap', hv'⟩ := Joins.ownsRow_form own2 (by omega); rw [hv'] at own2 ⊢; have hrow := own_base' ho; have cl2 : w2.cell? ⟨gl, 0, none⟩ = some v := grow2.cell (cell_old _ kc) (fun e => by have := hrow _ e.symm; simp only at this; omega); have cf2 : w2.frozen? ⟨gl, 0, none⟩ = false := (World.frozen?_of_block (grow2.block gl (by simp; omega) (fun e => by have := hrow _ e.symm; omega))).trans ((((Below.refl W.heap.size W).alloc (Nat.le_refl _) _).frozen (p := ⟨gl, 0, none⟩) (show gl < W.heap.size by omega)).trans kf)))
      have b2 : Below W.heap.size W (W.alloc (.cells #[.int .i64 (m : Int)] 3)) := (Below.refl _ _).alloc (Nat.le_refl _) _
      have hblk : ∀ k, k < W.heap.size → k ≤ br → w2.heap[k]? = W.heap[k]? := fun k hk1 hk2 => (grow2.block k (by simp; omega) (fun e => by have := hrow _ e.symm; omega)).trans (b2.block k hk1)
      have hoth : KeepsOthers W w2 := by
        refine (others_of_below b2).trans (KeepsOthers.of_grownBy grow2 (fun j o e ho' => ?_))
        obtain ⟨cc, fz, hc⟩ := ownsRow_cells (ho.alloc (.cells #[.int .i64 (m : Int)] 3)) j e
        rw [hc] at ho'
        cases ho'; rfl
      obtain ⟨U, hU⟩ : ∃ U : Nat, U = 0 := ⟨_, rfl⟩
      have g2s := grow2.size
      show KeepsOthers W _ ∧ _
      rw [Hs.out]
      refine ⟨hoth.trans (KeepsOthers.setCell _ _ _), ⟨⟨?_, Hd.out, ?_, ?_⟩, ?_, ?_, .slice (some ⟨g', 0, none⟩) (p.length + 1) cap', ?_, ?_⟩, ?_⟩
      · simp only [lensC, List.map_append, List.map_cons, List.map_nil, Hl.out.1, List.append_assoc]
        exact H1.out
      · simp only [Hl.out.2]; omega
      · simp only [Hl.out.2, List.length_append, List.length_cons, List.length_nil]; omega
      · exact ((hb.trans (b2.mono hb.size)).grown grow2 (by have := hb.size; simp; omega) (fun k hk => by have := hrow k hk; omega)).setCell (by simp only; omega) _
      · simp only [World.setCell, Array.size_modify]; simp at g2s; omega
      · intro q hq
        simp only [List.mem_cons, List.not_mem_nil, or_false] at hq
        subst hq
        exact ⟨World.cell?_setCell_same _ _ _ cl2, (World.frozen?_setCell _ _ _ _).trans cf2⟩
      · have e1 : numsV (lensC p) ++ [.int .i64 (m : Int)] = numsV (lensC (p ++ [R.take m])) := by simp [numsV, lensC, Hl.out.1]
        rw [e1] at own2
        have e2 : (p ++ [R.take m]).length = p.length + 1 := by simp
        simp only [e2]
        exact own_setCell own2 (fun g hg => by have := own_base' own2 g hg; simp only; omega) _
      · refine Fixed.of_block (fun a ha => ?_)
        have hab : a.block ≠ gl ∧ a.block ≤ br := by
          simp only [cellsC, List.mem_cons, List.not_mem_nil, or_false] at ha
          rcases ha with rfl | rfl | rfl | rfl | rfl | rfl <;> (simp only; omega)
        exact (Below.heap_setCell _ _ _ _ hab.1).trans (hblk _ (by omega) hab.2)
  case hdone =>
    rintro D ⟨B, c, R, p⟩ W hask ⟨⟨h1, h2, h3, h4⟩, hb, hs', v, hk, ho⟩ hend hD hdef
    dsimp only at h1 h2 h3 h4 ho hend
    have hbounds := nextL_bounds le mo bi Hok.out R 0 0 (by have := Hok.out; unfold okC at this; simp; omega)
    have hask' : (if (nextL le mo bi R 0 0).2 then some (B, (nextL le mo bi R 0 0).1) else none) = none := hask
    have hok2 : (nextL le mo bi R 0 0).2 = false := by
      cases hh : (nextL le mo bi R 0 0).2 with
      | false => rfl
      | true => rw [hh] at hask'; cases hask'
    have hN1 := hbounds.2.2.2.2 hok2
    rw [Nat.zero_add] at hN1
    obtain ⟨kc, kf⟩ := hk (⟨gl, 0, none⟩, v) (by simp)
    dsimp only at kc kf
    have hrow := own_base' ho
    by_cases hR0 : 0 < R.length
    · have hcut : cutsL le mo bi R = [R.length] := by
        rw [cutsL_cons le mo bi Hok.out R hR0, hN1, List.drop_length, cutsL_nil]
      rw [hcut] at h1
      have H1 := Lib.hid h1
      clear hask hask' hbounds hok2 hN1 hcut h1 h2 HT HR
      gi_wp2_with (gi_at_builtin; go_loud (refine wpListIn_append_own _ rfl (.tmp 30) (.tmp 33) 29 rfl (br + 1) 3 i0 (.int .i64 0) 1 8 Try.underlying29 hi hz0 hz1 hz2 rfl (by decide) _ _ _ rfl (ho.alloc _) ⟨W.heap.size, 0, none⟩ 1 1 [.int .i64 (R.length : Int)] rfl rfl (cell_one_new _ _ _) (oneI _) (by unfold maxLen; omega) (by omega) (by simp; omega) ?_; intro v' w2 own2 grow2 _; obtain ⟨g', cap', hv'⟩ := Joins.ownsRow_form own2 (by omega); rw [hv'] at own2 ⊢; have cl2 : w2.cell? ⟨gl, 0, none⟩ = some v := grow2.cell (cell_old _ kc) (fun e => by have := hrow _ e.symm; simp only at this; omega); have cf2 : w2.frozen? ⟨gl, 0, none⟩ = false := (World.frozen?_of_block (grow2.block gl (by simp; omega) (fun e => by have := hrow _ e.symm; omega))).trans ((((Below.refl W.heap.size W).alloc (Nat.le_refl _) _).frozen (p := ⟨gl, 0, none⟩) (show gl < W.heap.size by omega)).trans kf)))
      have b2 : Below W.heap.size W (W.alloc (.cells #[.int .i64 (R.length : Int)] 3)) := (Below.refl _ _).alloc (Nat.le_refl _) _
      have hoth : KeepsOthers W w2 := by
        refine (others_of_below b2).trans (KeepsOthers.of_grownBy grow2 (fun j o e ho' => ?_))
        obtain ⟨cc, fz, hc⟩ := ownsRow_cells (ho.alloc (.cells #[.int .i64 (R.length : Int)] 3)) j e
        rw [hc] at ho'
        cases ho'; rfl
      have b3 : Below w.heap.size w w2 := (hb.trans (b2.mono hb.size)).grown grow2 (by have := hb.size; simp; omega) (fun k hk => by have := hrow k hk; omega)
      have hdef2 := (hoth.trans (KeepsOthers.setCell w2 ⟨gl, 0, none⟩ (.slice (some ⟨g', 0, none⟩) (p.length + 1) cap'))).same _ _ hdef rfl
      have e1 : numsV (lensC p) ++ [.int .i64 (R.length : Int)] = numsV T := by rw [numsV_snoc, H1.out]
      have e2 : p.length + 1 = T.length := by rw [← H1.out]; simp [lensC]
      rw [e1] at own2
      have own3 := ownsRow_putObj (own_setCell (a := ⟨gl, 0, none⟩) own2 (fun g hg => by have := own_base' own2 g hg; simp only; omega) (.slice (some ⟨g', 0, none⟩) (p.length + 1) cap')) (.deferred none) hdef2 rfl
      refine ⟨by simp, .inl ⟨_, _, rfl, run_takeDeferred hdef2, ?_⟩⟩
      exact ⟨_, results_tmp2 rfl _ _ _, _, rfl, by rw [← e2]; exact own_mono own3 (by omega), below_put (b3.setCell (p := ⟨gl, 0, none⟩) (by simp only; omega) _) (by omega) _⟩
    · have e0 : R = [] := List.eq_nil_of_length_eq_zero (by omega)
      rw [e0, cutsL_nil, List.append_nil] at h1
      have hR0' : R.length = 0 := by omega
      have H1 := Lib.hid h1
      clear hask hask' hbounds hok2 hN1 h1 h2 HT HR e0
      gi_wp2
      have e2 : p.length = T.length := by rw [← H1.out]; simp [lensC]
      rw [H1.out] at ho
      have own3 := ownsRow_putObj ho (.deferred none) hdef rfl
      refine ⟨by simp, .inl ⟨_, _, rfl, run_takeDeferred hdef, ?_⟩⟩
      exact ⟨_, results_tmp2 rfl _ _ _, _, rfl, by rw [← e2]; exact own_mono own3 (by omega), below_put hb (by omega) _⟩
  case hstop =>
    rintro D c s W h
    exact h.elim
end Go.Proofs.Ytpdigpfjmpaooaa
