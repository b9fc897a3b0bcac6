import Derived.Test.YtpdigpfjmpaooaaB
/-! The iterator over the chunks. -/
namespace Go.Proofs.Ytpdigpfjmpaooaa
open Go.RowKit Go.Shelf
attribute [local go_sem] Oper.semAt_some wide_fn wide_depth
set_option linter.unusedVariables false
set_option linter.unusedSimpArgs false
theorem chunks_any (le mo bi : Int) (v : Value) (q : Option Addr) (w : World) (hv : ∃ A n c, v = .slice A n c) : Calls Try.prog 32 #[confV le mo bi, v, .pointer q] w fun e w' =>
    e = .returned (.func (.func 35) #[] #[.pointer (some ⟨w.heap.size, 0, none⟩), .pointer (some ⟨w.heap.size + 1, 0, none⟩), .pointer (some ⟨w.heap.size + 1 + 1, 0, none⟩)]) ∧ ((w.alloc (confO le mo bi)).alloc (.cells #[v] 24)).alloc (.cells #[.pointer q] 70) = w' := by
  obtain ⟨A, n, c, rfl⟩ := hv
  go_enter Try.func32, Try.ntmps32
  go_wp2
  go_ret
  exact ⟨rfl, rfl⟩
/-- Where the iterator stands: what is left (where it lies, with how much room), and the chunks so far. -/
structure CS where
  B : Option Addr
  c : Nat
  r : List (BitVec 8)
  p : List (List (BitVec 8))
def askC (le mo bi : Int) (s : CS) : Option (Option Addr × Nat) := if (nextL le mo bi s.r 0 0).2 then some (s.B, (nextL le mo bi s.r 0 0).1) else none
def stepC (le mo bi : Int) (s : CS) : CS :=
  let n := (nextL le mo bi s.r 0 0).1
  { B := if s.c = n then s.B else Option.map (fun x => x.add n) s.B, c := s.c - n, r := s.r.drop n, p := s.p ++ [s.r.take n] }
def privC (le mo bi : Int) (bc bb br r : Nat) (s : CS) : List (Addr × Value) :=
  [(⟨bc, 0, none⟩, .int .i64 le), (⟨bc, 1, none⟩, .int .i64 mo), (⟨bc, 2, none⟩, .int .i64 bi), (⟨bb, 0, none⟩, .slice s.B s.r.length s.c), (⟨br, 0, none⟩, .pointer (some ⟨r, 0, none⟩))]
def cellsC (bc bb br r : Nat) : List Addr := [⟨bc, 0, none⟩, ⟨bc, 1, none⟩, ⟨bc, 2, none⟩, ⟨bb, 0, none⟩, ⟨br, 0, none⟩, ⟨r, 0, none⟩]
/-- A variable that may be written. -/
def Var (r : Nat) (W : World) : Prop := ∃ v, W.cell? ⟨r, 0, none⟩ = some v ∧ W.frozen? ⟨r, 0, none⟩ = false
def lenW (bb : Nat) (W : World) : Nat := match W.cell? ⟨bb, 0, none⟩ with
  | some (.slice _ n _) => n
  | _ => 0
theorem Var.below {r : Nat} {W W' : World} (h : Var r W) (hb : Below W.heap.size W W') : Var r W' := by
  obtain ⟨v, h1, h2⟩ := h
  have hlt := World.block_lt_of_cell? W _ h1
  exact ⟨v, (hb.cell (p := ⟨r, 0, none⟩) hlt).trans h1, (hb.frozen (p := ⟨r, 0, none⟩) hlt).trans h2⟩
theorem Var.set {r : Nat} {W : World} (h : Var r W) (u : Value) : (W.setCell ⟨r, 0, none⟩ u).cell? ⟨r, 0, none⟩ = some u ∧ (W.setCell ⟨r, 0, none⟩ u).frozen? ⟨r, 0, none⟩ = false := by
  obtain ⟨v, h1, h2⟩ := h
  exact ⟨World.cell?_setCell_same _ _ _ h1, by rw [World.frozen?_setCell]; exact h2⟩
set_option maxRecDepth 100000 in
set_option maxHeartbeats 4000000 in
theorem iterC_any (n : Nat) (hn : 1 ≤ n) (le mo bi : Int) (hok : okC le mo bi) (bc bb br r : Nat) (h1 : bc ≠ r) (h2 : bb ≠ r) (h3 : br ≠ r) (h4 : bc ≠ bb) (h5 : br ≠ bb) (I : CS → World → Prop)
    (hI : ∀ s W, I s W → RdB W s.B s.r ∧ s.r.length ≤ s.c) (s0 : CS) :
    Iterates2 Try.prog n 35 #[.pointer (some ⟨bc, 0, none⟩), .pointer (some ⟨bb, 0, none⟩), .pointer (some ⟨br, 0, none⟩)] (fun q : Option Addr × Nat => #[.slice q.1 q.2 q.2]) I (askC le mo bi) (stepC le mo bi)
      (Fixed (cellsC bc bb br r)) (Besides [bb, r]) s0 (fun W => Keeps (privC le mo bi bc bb br r s0) W ∧ Var r W) (fun s W => W.cell? ⟨r, 0, none⟩ = some (.slice s.B s.r.length s.c)) := by
  intro l J Jx W hJI hJS hXS hY h0 hSt
  have hf11 : Fence.wide.fn 11 := trivial
  have hdp : Fence.wide.depth = none := rfl
  have Hok := Lib.hid hok
  clear hok
  refine callsIn_of_wp Try.func35 rfl trivial ?_ rfl
  simp only [Try.ntmps35, List.size_toArray, List.length_cons, List.length_nil, Nat.reduceAdd, Nat.reduceSub, Array.replicate_succ, Array.replicate_zero, List.push_toArray, List.append_toArray, List.nil_append, List.cons_append]
  gi_wp2
  gi_loopw [5] (fun _ wr => ∃ s, J s wr ∧ Keeps (privC le mo bi bc bb br r s) wr ∧ Var r wr) (fun _ wr => lenW bb wr)
  case atStart => exact ⟨s0, h0, hSt.1, hSt.2⟩
  case round =>
    obtain ⟨s, hJ, kp, hv⟩ := hrel
    obtain ⟨hrd, hrc⟩ := hI s wr (hJI s wr hJ)
    have NX := next_any le mo bi s.r s.B s.c wr Hok.out hrd hrc
    have hbounds := nextL_bounds le mo bi Hok.out s.r 0 0 (by have := Hok.out; unfold okC at this; simp; omega)
    have hask : askC le mo bi s = if (nextL le mo bi s.r 0 0).2 then some (s.B, (nextL le mo bi s.r 0 0).1) else none := rfl
    have hstep : stepC le mo bi s = { B := if s.c = (nextL le mo bi s.r 0 0).1 then s.B else Option.map (fun x => x.add (nextL le mo bi s.r 0 0).1) s.B, c := s.c - (nextL le mo bi s.r 0 0).1, r := s.r.drop (nextL le mo bi s.r 0 0).1, p := s.p ++ [s.r.take (nextL le mo bi s.r 0 0).1] } := rfl
    have hlw : lenW bb wr = s.r.length := by unfold lenW; rw [(kp (⟨bb, 0, none⟩, .slice s.B s.r.length s.c) (by simp [privC])).1]
    obtain ⟨⟨m, ok⟩, hN⟩ : ∃ N, nextL le mo bi s.r 0 0 = N := ⟨_, rfl⟩
    rw [hN] at NX hbounds hask hstep
    simp only at NX hbounds hask hstep
    have c0 := (kp (⟨bc, 0, none⟩, .int .i64 le) (by simp [privC])).1
    have c1 := (kp (⟨bc, 1, none⟩, .int .i64 mo) (by simp [privC])).1
    have c2 := (kp (⟨bc, 2, none⟩, .int .i64 bi) (by simp [privC])).1
    have c3 := (kp (⟨bb, 0, none⟩, .slice s.B s.r.length s.c) (by simp [privC])).1
    replace NX := Lib.hid (callsIn_wide (n := n - 1) |>.2 NX)
    have Hb := Lib.hid hbounds
    have Hask := Lib.hid hask
    have Hstep := Lib.hid hstep
    have Hlw := Lib.hid hlw
    have hm0 : m ≤ s.r.length := by have := hbounds.2.1; omega
    have hrm := hrd.1
    clear hN hbounds hask hstep hlw
    obtain ⟨B, c, R, p⟩ := s
    dsimp only at *
    cases ok with
    | false =>
      gi_wp2_with (gi_at_call 11; refine NX.out.mono ?_; rintro e w1 ⟨rfl, b1⟩; have kp1 := kp.below b1; have hv1 := hv.below b1; have d3 := (kp1 (⟨bb, 0, none⟩, .slice B R.length c) (by simp [privC])).1; have d4 := (kp1 (⟨br, 0, none⟩, .pointer (some ⟨r, 0, none⟩)) (by simp [privC])).1; obtain ⟨u0, e1, e2⟩ := id hv1)
      refine bodyPost_ret (results_none rfl _ _ _) rfl ?_
      exact ⟨⟨_, rfl⟩, .inl ⟨⟨B, c, R, p⟩, by rw [Hask.out]; rfl, hJS _ _ _ hJ ((Besides.of_below b1).setCell _ (by simp) _), (Var.set hv1 _).1⟩⟩
    | true =>
      have hm1 : 1 ≤ m := (Hb.out.2.2.2.1 rfl).2
      gi_wp2_with (gi_at_call 11; go_loud (refine NX.out.mono ?_; rintro e w1 ⟨rfl, b1⟩; have kp1 := kp.below b1; have hv1 := hv.below b1; have d3 := (kp1 (⟨bb, 0, none⟩, .slice B R.length c) (by simp [privC])).1; have d4 := (kp1 (⟨br, 0, none⟩, .pointer (some ⟨r, 0, none⟩)) (by simp [privC])).1; obtain ⟨u0, e1, e2⟩ := id hv1; have d5 : (w1.setCell ⟨r, 0, none⟩ (.slice B R.length c)).cell? ⟨bb, 0, none⟩ = some (.slice B R.length c) := (World.cell?_setCell_other _ _ _ _ (by first | (simp; done) | (simp; omega))).trans d3; obtain ⟨fn, tmps, assign, body, hy, hR⟩ := hY ⟨B, c, R, p⟩ (B, m) _ (hJS _ _ _ hJ ((Besides.of_below b1).setCell ⟨r, 0, none⟩ (by simp) (.slice B R.length c))) (by simpa using Hask.out)))
      refine hR.mono ?_
      rintro e W3 (⟨rfl, hJ3, hfix⟩ | ⟨rfl, hJx3⟩)
      · have kp2 : Keeps (privC le mo bi bc bb br r ⟨B, c, R, p⟩) (w1.setCell ⟨r, 0, none⟩ (.slice B R.length c)) := kp1.setCell (by simp [privC]; omega) _
        have kp3 := kp2.fixed hfix (by simp [privC, cellsC])
        have f3 := kp3 (⟨bb, 0, none⟩, .slice B R.length c) (by simp [privC])
        obtain ⟨f30, f31⟩ := id f3
        have hv3 : Var r W3 := ⟨_, (hfix ⟨r, 0, none⟩ (by simp [cellsC])).1.trans (Var.set hv1 _).1, (hfix ⟨r, 0, none⟩ (by simp [cellsC])).2.trans (Var.set hv1 _).2⟩
        gi_wp2
        have hlen : (R.drop m).length = R.length - m := List.length_drop
        obtain ⟨V, hV⟩ : ∃ V, V = Value.slice (if c = m then B else Option.map (fun x => x.add m) B) (R.length - m) (c - m) := ⟨_, rfl⟩
        rw [← hV]
        refine ⟨⟨stepC le mo bi ⟨B, c, R, p⟩, hJS _ _ _ hJ3 ((Besides.refl _ _).setCell ⟨bb, 0, none⟩ (by simp) _), ?_, ?_⟩, ?_⟩
        · rw [Hstep.out]
          intro q hq
          simp only [privC, List.mem_cons, List.not_mem_nil, or_false] at hq
          have g1 := kp3 (⟨bc, 0, none⟩, .int .i64 le) (by simp [privC])
          have g2 := kp3 (⟨bc, 1, none⟩, .int .i64 mo) (by simp [privC])
          have g3 := kp3 (⟨bc, 2, none⟩, .int .i64 bi) (by simp [privC])
          have g4 := kp3 (⟨br, 0, none⟩, .pointer (some ⟨r, 0, none⟩)) (by simp [privC])
          rcases hq with rfl | rfl | rfl | rfl | rfl
          · exact ⟨(World.cell?_setCell_other _ _ _ _ (by first | (simp; done) | (simp; omega))).trans g1.1, (World.frozen?_setCell _ _ _ _).trans g1.2⟩
          · exact ⟨(World.cell?_setCell_other _ _ _ _ (by first | (simp; done) | (simp; omega))).trans g2.1, (World.frozen?_setCell _ _ _ _).trans g2.2⟩
          · exact ⟨(World.cell?_setCell_other _ _ _ _ (by first | (simp; done) | (simp; omega))).trans g3.1, (World.frozen?_setCell _ _ _ _).trans g3.2⟩
          · refine ⟨(World.cell?_setCell_same _ _ _ f30).trans ?_, (World.frozen?_setCell _ _ _ _).trans f31⟩
            rw [hV]
            simp only [hlen]
          · exact ⟨(World.cell?_setCell_other _ _ _ _ (by first | (simp; done) | (simp; omega))).trans g4.1, (World.frozen?_setCell _ _ _ _).trans g4.2⟩
        · obtain ⟨u, x1, x2⟩ := hv3
          exact ⟨u, (World.cell?_setCell_other _ _ _ _ (by first | (simp; done) | (simp; omega))).trans x1, (World.frozen?_setCell _ _ _ _).trans x2⟩
        · rw [Hlw.out]
          unfold lenW
          rw [World.cell?_setCell_same _ _ _ f30, hV]
          show R.length - m < R.length
          omega
      · gi_wp2
        refine bodyPost_ret (results_none rfl _ _ _) rfl ?_
        exact ⟨⟨_, rfl⟩, .inr ⟨_, hJx3⟩⟩
end Go.Proofs.Ytpdigpfjmpaooaa
