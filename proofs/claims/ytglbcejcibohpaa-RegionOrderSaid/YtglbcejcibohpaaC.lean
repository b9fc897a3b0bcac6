import Derived.Test.YtglbcejcibohpaaB
import Derived.Test.YtglbcejcibohpaaI3
/-! The iterator over a row's extents; Check. -/
namespace Go.Proofs.Ytglbcejcibohpaa
open Go.RowKit Go.Shelf
attribute [local go_sem] Oper.semAt_some wide_fn wide_depth
set_option linter.unusedVariables false
set_option linter.unusedSimpArgs false
theorem pairs_any (A : Option Addr) (n c : Nat) (w : World) : Calls Try.prog 42 #[.slice A n c] w fun e w' => e = .returned (.func (.func 43) #[] #[.pointer (some ⟨w.heap.size, 0, none⟩)]) ∧ w.alloc (.cells #[.slice A n c] 22) = w' := by
  go_enter Try.func42, Try.ntmps42
  go_wp2
  go_ret
  exact ⟨rfl, rfl⟩
/-- Blocks of cells, as they were. -/
def CellsKeep (W W' : World) : Prop := ∀ (k : Nat) (cs : Array Value) (t : TypeId) (fr : Nat × Nat), W.heap[k]? = some (Obj.cells cs t fr) → W'.heap[k]? = some (Obj.cells cs t fr)
theorem CellsKeep.trans {A B C : World} (h : CellsKeep A B) (k : CellsKeep B C) : CellsKeep A C := fun i cs t fr hi => k i cs t fr (h i cs t fr hi)
theorem CellsKeep.put {W : World} {l : Nat} {o o' : Obj} (h : W.heap[l]? = some o) (ho : o.isCells = false) : CellsKeep W (W.putObj l o') := fun k cs t fr hk => by
  rw [World.putObj_heap_other]
  · exact hk
  · rintro rfl
    rw [h] at hk
    cases hk
    cases ho
theorem CellsKeep.below {W W' : World} (h : Below W.heap.size W W') : CellsKeep W W' := fun k cs t fr hk => (h.block k (Array.getElem?_eq_some_iff.1 hk).1).trans hk
def askP (l : List Ext) (k : Nat) : Option (Int × Ext) := if h : k < l.length then some (endAt (-1) l k, l[k]) else none
set_option maxRecDepth 100000 in
set_option maxHeartbeats 4000000 in
theorem iterP_any (n : Nat) (hn : 1 ≤ n) (b : Int) (hb : 0 ≤ b ∧ b ≤ 4096) (l : List Ext) (A : Option Addr) (cap : Nat) (hl : l.length ≤ cap) (bl : Nat) (I : Nat → World → Prop)
    (hI : ∀ s W, I s W → RdE W A l ∧ OkTo b l s) :
    Iterates2 Try.prog n 43 #[.pointer (some ⟨bl, 0, none⟩)] (fun q : Int × Ext => #[.int .i64 q.1, eV q.2.1 q.2.2]) I (askP l) (fun k => k + 1)
      CellsKeep (Besides []) 0 (fun W => W.cell? ⟨bl, 0, none⟩ = some (.slice A l.length cap)) (fun _ _ => True) := by
  intro l0 J Jx W hJI hJS hXS hY h0 hSt
  have hdp : Fence.wide.depth = none := rfl
  have hm := (hI 0 W (hJI 0 W h0)).1.1
  obtain ⟨b1, b2⟩ := hb
  refine callsIn_of_wp Try.func43 rfl trivial ?_ rfl
  simp only [Try.ntmps43, List.size_toArray, List.length_cons, List.length_nil, Nat.reduceAdd, Nat.reduceSub, Array.replicate_succ, Array.replicate_zero, List.push_toArray, List.append_toArray, List.nil_append, List.cons_append]
  gi_wp2
  gi_loopw [3, 8] (fun ev kv wr => ∃ k : Nat, k ≤ l.length ∧ kv = .int .i64 k ∧ ev = .int .i64 (endAt (-1) l k) ∧ J k wr) (fun _ kv _ => l.length - (intOf kv).toNat)
  case atStart => exact ⟨0, Nat.zero_le _, rfl, rfl, h0⟩
  case round =>
    obtain ⟨k, hk, rfl, rfl, hJ⟩ := hrel
    obtain ⟨hrd, hok⟩ := hI k wr (hJI k wr hJ)
    by_cases hlt : k < l.length
    · obtain ⟨ad, hAd, c0, c1, i1, i2⟩ := hrd.2 k hlt
      subst hAd
      have hask : askP l k = some (endAt (-1) l k, l[k]) := by unfold askP; rw [dif_pos hlt]
      have hes := endAt_succ (-1) l k hlt
      have hnext := fun W h => ((hI (k + 1) W (hJI (k + 1) W h)).2 k hlt (by omega)).1
      obtain ⟨⟨a, n'⟩, ht⟩ : ∃ t, l[k] = t := ⟨_, rfl⟩
      rw [ht] at c0 c1 hask hes hnext
      simp only at c0 c1 hes
      obtain ⟨E, hE⟩ : ∃ E, endAt (-1) l k = E := ⟨_, rfl⟩
      rw [hE] at hask
      rw [hE]
      obtain ⟨fn, tmps, assign, body, hy, hR⟩ := hY k (E, (a, n')) (wr.alloc (eO a n')) (hJS _ _ _ hJ ((Besides.refl _ _).alloc _)) hask
      have Hes := Lib.hid hes
      have Hn := Lib.hid hnext
      clear hes hnext ht hE hask hok hrd i1 i2
      gi_wp2
      refine hR.mono ?_
      rintro e W3 (⟨rfl, hJ3, hfix⟩ | ⟨rfl, hJx3⟩)
      · have hlies := Hn.out W3 hJ3
        unfold liesE at hlies
        simp only at hlies
        obtain ⟨q1, q2, q3⟩ := hlies
        have hc := hfix _ _ _ _ (heap_new wr (eO a n') wr.heap.size rfl)
        have f0 : W3.cell? ⟨wr.heap.size, 0, none⟩ = some (.int .i64 a) := by simp [World.cell?, hc]
        have f1 : W3.cell? ⟨wr.heap.size, 1, none⟩ = some (.int .i64 n') := by simp [World.cell?, hc]
        have HC := Lib.hid hc
        clear hc
        gi_wp2
        refine ⟨⟨k + 1, by omega, by go_num, by rw [Hes.out], hJ3⟩, by simp [intOf]; omega⟩
      · gi_wp2
        refine bodyPost_ret (results_none rfl _ _ _) rfl ?_
        exact ⟨⟨_, rfl⟩, .inr ⟨_, hJx3⟩⟩
    · gi_wp2
      refine bodyPost_end (results_none rfl _ _ _) rfl ?_
      exact ⟨⟨_, rfl⟩, .inl ⟨k, by unfold askP; rw [dif_neg hlt], hJ, trivial⟩⟩
def freeB (b : Int) (l : List Ext) : Bool := decide (freeE b l)
set_option maxRecDepth 100000 in
set_option maxHeartbeats 4000000 in
theorem free_any (b : Int) (hb : 0 ≤ b ∧ b ≤ 4096) (l : List Ext) (A : Option Addr) (cap : Nat) (w : World) (hr : RdE w A l) (hl : l.length ≤ cap) :
    Calls Try.prog 36 #[.int .i64 b, .slice A l.length cap] w fun e w' => e = .returned (.bool (freeB b l)) ∧ Below w.heap.size w w' := by
  have HR := Lib.hid hr
  have hm := hr.1
  obtain ⟨T, hT⟩ : ∃ T, freeB b l = T := ⟨_, rfl⟩
  rw [hT]
  have HT := Lib.hid hT
  clear hr hT
  refine (callsIn_wide (n := 5)).1 (callsIn_of_wp_marks Try.func36 rfl trivial ?_ rfl)
  simp only [Try.ntmps36, List.size_toArray, List.length_cons, List.length_nil, Nat.reduceAdd, Nat.reduceSub, Array.replicate_succ, Array.replicate_zero, List.push_toArray, List.append_toArray, List.nil_append, List.cons_append]
  gi_wp2_with (first | (gi_at_call 42; refine (callsIn_wide.2 (pairs_any _ _ _ _)).mono ?_; rintro e w' ⟨rfl, rfl⟩))
  obtain ⟨W0, hW0⟩ : ∃ W0, W0 = (((w.alloc (Obj.cells #[Value.int IntKind.i64 b] 3)).alloc (Obj.cells #[Value.bool false] 4)).alloc (Obj.cells #[Value.slice A l.length cap] 22)) := ⟨_, rfl⟩
  rw [← hW0]
  obtain ⟨g2, hg2⟩ : ∃ g, w.heap.size = g := ⟨_, rfl⟩
  obtain ⟨g4, hg4⟩ : ∃ g, w.heap.size + 1 = g := ⟨_, rfl⟩
  obtain ⟨bl, hbl⟩ : ∃ g, w.heap.size + 1 + 1 = g := ⟨_, rfl⟩
  have k1 : Keeps [(⟨g2, 0, none⟩, .int .i64 b), (⟨g4, 0, none⟩, .bool false)] W0 := by
    intro q hq
    simp only [List.mem_cons, List.not_mem_nil, or_false] at hq
    subst hg2 hg4 hbl
    rcases hq with rfl | rfl <;> (rw [hW0]; simp [go_sem])
  have k0 : W0.cell? ⟨bl, 0, none⟩ = some (.slice A l.length cap) := by subst hg2 hg4 hbl; rw [hW0]; simp [go_sem]
  have b0 : Below w.heap.size w W0 := by
    rw [hW0]
    refine ((((Below.refl _ _).alloc (Nat.le_refl _) _).alloc ?_ _).alloc ?_ _) <;> (simp; try omega)
  have hsz : W0.heap.size = bl + 1 := by rw [hW0, ← hbl]; simp
  have o1 : w.heap.size ≤ g2 := by omega
  have o2 : g2 < g4 := by omega
  have o3 : g4 < bl := by omega
  rw [hbl, hg4, hg2]
  clear hW0 hg2 hg4 hbl
  have hps : ∀ (x : Int × Ext), ((fun q : Int × Ext => #[.int .i64 q.1, eV q.2.1 q.2.2]) x).size = (#[9, 10] : Array Tmp).size := fun _ => rfl
  refine range_law3 (gf := 43) (lb := #[.pointer (some ⟨bl, 0, none⟩)]) (by omega) rfl (enters_of Try.func43 (by kernel_rfl) rfl) (encs := fun q : Int × Ext => #[.int .i64 q.1, eV q.2.1 q.2.2]) hps
    (I := fun (k : Nat) (W : World) => (k ≤ l.length ∧ OkTo b l k) ∧ Below w.heap.size w W ∧ bl < W.heap.size ∧ Keeps [(⟨g2, 0, none⟩, .int .i64 b), (⟨g4, 0, none⟩, .bool false)] W)
    (ask := askP l) (step := fun k => k + 1) (Fix := CellsKeep) (Stab := Besides []) (s0 := 0) (Start := fun W => W.cell? ⟨bl, 0, none⟩ = some (.slice A l.length cap)) (End := fun _ _ => True)
    (Ix := fun c _ W => c = .ret ∧ ¬ freeE b l ∧ Below w.heap.size w W ∧ bl < W.heap.size ∧ Keeps [(⟨g4, 0, none⟩, .bool false)] W)
    (iterP_any _ (by omega) b hb l A cap hl bl _ ?hI) (fun _ _ h => h.others) ?hIs ?hXs ?hIput ?hXput ?hIalloc (fun _ _ _ => CellsKeep.trans) ?hFput ?hSalloc (fun _ _ _ _ _ h _ _ _ => h) ?h0 k0
    (fun x V => { tmps := #[.int .i64 b, .slice A l.length cap, .pointer (some ⟨g2, 0, none⟩), undef, .pointer (some ⟨g4, 0, none⟩), .int .i64 x.1, .pointer (some ⟨V.heap.size, 0, none⟩), .slice A l.length cap, .func (.func 43) #[] #[.pointer (some ⟨bl, 0, none⟩)], .int .i64 x.1, eV x.2.1 x.2.2, undef, undef, undef, undef, undef, undef, undef, undef, undef, undef], defers := [] }) (fun x V => V.alloc (eO x.2.1 x.2.2)) ?hA ?hassign ?hbody ?hdone ?hstop
  case hI =>
    rintro k W ⟨⟨h1, h2⟩, hb', _⟩
    exact ⟨HR.out.below hb', h2⟩
  case hIs =>
    rintro k W W' ⟨h1, hb', hs', hk⟩ hS
    exact ⟨h1, hb'.trans (hS.to_below (by simp) hb'.size), by have := hS.size; omega, hk.besides hS (by simp)⟩
  case hXs =>
    rintro c k W W' ⟨h1, h2, hb', hs', hk⟩ hS
    exact ⟨h1, h2, hb'.trans (hS.to_below (by simp) hb'.size), by have := hS.size; omega, hk.besides hS (by simp)⟩
  case hIput =>
    rintro k W j o o' ⟨h1, hb', hs', hk⟩ hj _ _
    exact ⟨h1, below_put hb' (by omega) _, by simpa using hs', hk.put j (by simp; omega) _⟩
  case hXput =>
    rintro c k W j o o' ⟨h1, h2, hb', hs', hk⟩ hj _ _
    exact ⟨h1, h2, below_put hb' (by omega) _, by simpa using hs', hk.put j (by simp; omega) _⟩
  case hIalloc =>
    rintro k W o ⟨h1, hb', hs', hk⟩ _
    exact ⟨h1, hb'.alloc hb'.size _, by simp; omega, hk.alloc _⟩
  case hFput =>
    rintro W j o o' _ h ho
    exact CellsKeep.put h ho
  case hSalloc =>
    rintro W o h _
    exact cell_old _ h
  case h0 => exact ⟨⟨Nat.zero_le _, fun j _ h => by omega⟩, b0, by omega, k1⟩
  case hA =>
    rintro k x W ⟨h1, hb', hs', hk⟩ _
    exact ⟨⟨h1, hb'.alloc hb'.size _, by simp; omega, hk.alloc _⟩, others_of_below ((Below.refl _ _).alloc (Nat.le_refl _) _), CellsKeep.below ((Below.refl _ _).alloc (Nat.le_refl _) _)⟩
  case hassign =>
    intro j x W K hK
    gi_wp2
    exact hK
  case hbody =>
    rintro j k x V W hVW ⟨⟨h1, h2⟩, hb', hs', hk⟩ hask
    unfold askP at hask
    split at hask
    · rename_i hlt
      obtain rfl := Option.some.inj hask
      clear hask
      obtain ⟨ad, hAd, _, _, i1, i2⟩ := HR.out.2 k hlt
      have hc := hVW V.heap.size _ (heap_new V (eO l[k].1 l[k].2) V.heap.size rfl) rfl
      have Hnext := Lib.hid (fun a c => OkTo.next h2 hlt a c)
      have Hnot := Lib.hid (fun h => OkTo.not (b := b) hlt h)
      have LI := fun w => lies_any b l[k].1 l[k].2 w hb i1 i2
      have hbw := hb'.size
      obtain ⟨kb, kbf⟩ := hk (⟨g2, 0, none⟩, .int .i64 b) (by simp)
      obtain ⟨k4, k4f⟩ := hk (⟨g4, 0, none⟩, .bool false) (by simp)
      dsimp only at kb kbf k4 k4f
      obtain ⟨⟨a, n⟩, ht⟩ : ∃ t, l[k] = t := ⟨_, rfl⟩
      rw [ht] at hc Hnext Hnot LI
      rw [ht]
      obtain ⟨E, hE⟩ : ∃ E, endAt (-1) l k = E := ⟨_, rfl⟩
      rw [hE] at Hnext Hnot
      rw [hE]
      simp only at hc LI
      have f0 : W.cell? ⟨V.heap.size, 0, none⟩ = some (.int .i64 a) := by simp [World.cell?, hc]
      have f1 : W.cell? ⟨V.heap.size, 1, none⟩ = some (.int .i64 n) := by simp [World.cell?, hc]
      have hV : V.heap.size < W.heap.size := (Array.getElem?_eq_some_iff.1 hc).1
      have b1 : Below W.heap.size W (W.alloc (eO a n)) := (Below.refl _ _).alloc (Nat.le_refl _) _
      have hg4W : g4 < W.heap.size := by omega
      have K1 := Lib.hid hk
      have HC := Lib.hid hc
      clear hc hVW ht hE i1 i2 hk
      by_cases hlies : 0 ≤ a ∧ 1 ≤ n ∧ a + n ≤ b
      · have LI : Hid (∀ (m : Nat) (w : World), CallsIn Fence.wide m Try.prog 33 #[.int .i64 b, eV a n] w fun e w' => e = .returned (.bool true) ∧ w.alloc (eO a n) = w') := fun m w => callsIn_wide.2 (by have := LI w; rw [lies_yes hlies] at this; exact this)
        by_cases hE : E < a
        · have q : decide (a ≤ E) = false := decide_eq_false (by omega)
          gi_wp2_with (first | (gi_at_call 33; go_loud (refine ((LI.out _ _).inRound _).mono ?_; rintro e w' ⟨rfl, rfl⟩)))
          exact ⟨others_of_below b1, ⟨⟨by omega, Hnext.out hlies hE⟩, hb'.trans (b1.mono hbw), by simp; omega, K1.out.alloc _⟩, CellsKeep.below b1⟩
        · have q : decide (a ≤ E) = true := decide_eq_true (by omega)
          gi_wp2_with (first | (gi_at_call 33; go_loud (refine ((LI.out _ _).inRound _).mono ?_; rintro e w' ⟨rfl, rfl⟩)))
          refine ⟨(KeepsOthers.setCell _ _ _).trans (others_of_below ((Below.refl _ _).alloc (Nat.le_refl _) _)), rfl, Hnot.out (fun h => by have := h.2; omega), (hb'.setCell (p := ⟨g4, 0, none⟩) (by simp only; omega) _).alloc (by simp [World.setCell]; omega) _, by simp [World.setCell]; omega, ?_⟩
          intro q hq
          simp only [List.mem_cons, List.not_mem_nil, or_false] at hq
          subst hq
          exact ⟨cell_old _ (World.cell?_setCell_same _ _ _ k4), ((((Below.refl _ _).alloc (Nat.le_refl _) _).frozen (p := ⟨g4, 0, none⟩) (by simp [World.setCell]; omega)).trans (World.frozen?_setCell _ _ _ _)).trans k4f⟩
      · have LI : Hid (∀ (m : Nat) (w : World), CallsIn Fence.wide m Try.prog 33 #[.int .i64 b, eV a n] w fun e w' => e = .returned (.bool false) ∧ w.alloc (eO a n) = w') := fun m w => callsIn_wide.2 (by have := LI w; rw [lies_no hlies] at this; exact this)
        gi_wp2_with (first | (gi_at_call 33; go_loud (refine ((LI.out _ _).inRound _).mono ?_; rintro e w' ⟨rfl, rfl⟩)))
        refine ⟨(KeepsOthers.setCell _ _ _).trans (others_of_below ((Below.refl _ _).alloc (Nat.le_refl _) _)), rfl, Hnot.out (fun h => hlies h.1), (hb'.setCell (p := ⟨g4, 0, none⟩) (by simp only; omega) _).alloc (by simp [World.setCell]; omega) _, by simp [World.setCell]; omega, ?_⟩
        intro q hq
        simp only [List.mem_cons, List.not_mem_nil, or_false] at hq
        subst hq
        exact ⟨cell_old _ (World.cell?_setCell_same _ _ _ k4), ((((Below.refl _ _).alloc (Nat.le_refl _) _).frozen (p := ⟨g4, 0, none⟩) (by simp [World.setCell]; omega)).trans (World.frozen?_setCell _ _ _ _)).trans k4f⟩
    · cases hask
  case hdone =>
    rintro D k W hask ⟨⟨h1, h2⟩, hb', hs', hk⟩ _ hD hdef
    have hkl : l.length ≤ k := by
      unfold askP at hask
      split at hask
      · cases hask
      · omega
    have eT : T = true := by rw [← HT.out]; exact decide_eq_true (h2.all hkl)
    subst eT
    obtain ⟨k4, k4f⟩ := hk (⟨g4, 0, none⟩, .bool false) (by simp)
    dsimp only at k4 k4f
    have hg4W : g4 < W.heap.size := by omega
    have hdef2 : (W.setCell ⟨g4, 0, none⟩ (.bool true)).heap[D]? = some (.deferred (some [])) := (KeepsOthers.setCell W ⟨g4, 0, none⟩ (.bool true)).same _ _ hdef rfl
    have k5 : (W.setCell ⟨g4, 0, none⟩ (.bool true)).cell? ⟨g4, 0, none⟩ = some (.bool true) := World.cell?_setCell_same _ _ _ k4
    have hb5 : Below w.heap.size w (W.setCell ⟨g4, 0, none⟩ (.bool true)) := hb'.setCell (by simp only; omega) _
    clear hask h2 hk
    gi_wp2
    have k6 : ((W.setCell ⟨g4, 0, none⟩ (.bool true)).putObj D (.deferred none)).cell? ⟨g4, 0, none⟩ = some (.bool true) := (World.cell?_of_block (World.putObj_heap_other (by simp only; omega))).trans k5
    refine ⟨by simp, .inl ⟨_, _, rfl, run_takeDeferred hdef2, ?_⟩⟩
    exact ⟨.bool true, by simp [results, Try.results36, go_sem, k6], rfl, below_put hb5 (by omega) _⟩
  case hstop =>
    rintro D c k W ⟨rfl, h2, hb', hs', hk⟩ hD hdef
    have eT : T = false := by rw [← HT.out]; exact decide_eq_false h2
    subst eT
    obtain ⟨k4, k4f⟩ := hk (⟨g4, 0, none⟩, .bool false) (by simp)
    dsimp only at k4 k4f
    gi_wp2
    have k6 : (W.putObj D (.deferred none)).cell? ⟨g4, 0, none⟩ = some (.bool false) := (World.cell?_of_block (World.putObj_heap_other (by simp only; omega))).trans k4
    refine ⟨by simp, .inl ⟨_, _, rfl, run_takeDeferred hdef, ?_⟩⟩
    exact ⟨.bool false, by simp [results, Try.results36, go_sem, k6], rfl, below_put hb' (by omega) _⟩
end Go.Proofs.Ytglbcejcibohpaa
