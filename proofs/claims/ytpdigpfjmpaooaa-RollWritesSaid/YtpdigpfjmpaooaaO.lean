import Derived.Test.YtpdigpfjmpaooaaN
/-! (*Cutter).Write. -/
namespace Go.Proofs.Ytpdigpfjmpaooaa
open Go.RowKit Go.Shelf
attribute [local go_sem] Oper.semAt_some wide_fn wide_depth
set_option linter.unusedVariables false
set_option linter.unusedSimpArgs false
theorem Besides.more {L L' : List Nat} {W W' : World} (h : Besides L W W') (hl : ∀ k ∈ L, k ∈ L') : Besides L' W W' := ⟨h.os, h.tape, h.output, fun k hk hn => h.block k hk (fun hkl => hn (hl k hkl)), h.others⟩
theorem Besides.put {L : List Nat} {A W : World} (h : Besides L A W) {l : Nat} (hl : A.heap.size ≤ l) (o : Obj) : Besides L A (W.putObj l o) :=
  ⟨h.os, h.tape, h.output, fun k hk hn => (World.putObj_heap_other (by omega)).trans (h.block k hk hn), ⟨by have := h.size; simpa using this, fun k o' hk ho => (World.putObj_heap_other (by have := (Array.getElem?_eq_some_iff.1 hk).1; omega)).trans (h.others.same k o' hk ho)⟩⟩
theorem OwnP.put {W : World} {base : Nat} {v : Value} {ps : List (List (BitVec 8))} (h : OwnP W base v ps) {l : Nat} {o : Obj} (o' : Obj) (hl : W.heap[l]? = some o) (ho : o.isCells = false) : OwnP (W.putObj l o') base v ps := by
  obtain ⟨vs, h1, h2⟩ := h
  exact ⟨vs, ownsRow_putObj h1 o' hl ho, fun j hj => by obtain ⟨u, a, b, c⟩ := h2 j hj; exact ⟨u, a, b, ownsRow_putObj c o' hl ho⟩⟩
theorem OwnP.setCell {W : World} {base : Nat} {v : Value} {ps : List (List (BitVec 8))} (h : OwnP W base v ps) {a : Addr} (ha : a.block < base) (u : Value) : OwnP (W.setCell a u) base v ps :=
  h.besides (L := [a.block]) ((Besides.refl _ _).setCell a (by simp) u) (by simp; omega)
/-- A round's end: a chunk more in the row. -/
theorem round_end {W0 W w3 w4 : World} {gl bb br r : Nat} {v u v2 : Value} {p : List (List (BitVec 8))} {q : List (BitVec 8)} {vs : List Value} (hb : Besides [gl, bb, r] W0 W) (hsz : W0.heap.size = br + 1) (h1 : gl < br)
    (b3 : Below W.heap.size W w3) (hv : w3.ownsRow (br + 1) 24 1 v p.length vs) (hp : ∀ j (h : j < p.length), ∃ u, vs[j]? = some u ∧ u ≠ .slice none 0 0 ∧ w3.ownsRow (br + 1) 5 1 u p[j].length (bytesV p[j]))
    (hq : w3.ownsRow (br + 1) 5 1 u q.length (bytesV q)) (hu : u ≠ .slice none 0 0) (hg : w3.grownBy w4 v.ownBlock) (h4 : w4.ownsRow (br + 1) 24 1 v2 (p.length + 1) (vs ++ [u])) (kc : W.cell? ⟨gl, 0, none⟩ = some v) (kf : W.frozen? ⟨gl, 0, none⟩ = false) :
    KeepsOthers W (w4.setCell ⟨gl, 0, none⟩ v2) ∧ Besides [gl, bb, r] W0 (w4.setCell ⟨gl, 0, none⟩ v2) ∧ Keeps [(⟨gl, 0, none⟩, v2)] (w4.setCell ⟨gl, 0, none⟩ v2) ∧ OwnP (w4.setCell ⟨gl, 0, none⟩ v2) (br + 1) v2 (p ++ [q]) ∧ ∀ k, k ≤ br → k ≠ gl → (w4.setCell ⟨gl, 0, none⟩ v2).heap[k]? = W.heap[k]? := by
  have hrow := own_base' hv
  have hs := hb.size
  have hs3 := b3.size
  have hoth : KeepsOthers W w4 := by
    refine (others_of_below b3).trans (KeepsOthers.of_grownBy hg (fun j o e ho' => ?_))
    obtain ⟨cc, fz, hc⟩ := ownsRow_cells hv j e
    rw [hc] at ho'
    cases ho'; rfl
  have hblk : ∀ k, k ≤ br → w4.heap[k]? = W.heap[k]? := fun k hk => (hg.block k (by omega) (fun e => by have := hrow _ e.symm; omega)).trans (b3.block k (by omega))
  have hf := hoth.trans (KeepsOthers.setCell w4 ⟨gl, 0, none⟩ v2)
  have hb2 : ∀ k, k ≤ br → k ≠ gl → (w4.setCell ⟨gl, 0, none⟩ v2).heap[k]? = W.heap[k]? := fun k hk hne => (Below.heap_setCell _ _ _ _ (by simpa using hne)).trans (hblk k hk)
  have hcell : w4.cell? ⟨gl, 0, none⟩ = some v := (World.cell?_of_block (hblk gl (by omega))).trans kc
  have hfroz : w4.frozen? ⟨gl, 0, none⟩ = false := (World.frozen?_of_block (hblk gl (by omega))).trans kf
  refine ⟨hf, ⟨?_, ?_, ?_, ?_, hb.others.trans hf⟩, ?_, ?_, hb2⟩
  · exact hg.os.trans (b3.os.trans hb.os)
  · exact hg.tape.trans (b3.tape.trans hb.tape)
  · exact hg.output.trans (b3.output.trans hb.output)
  · intro k hk hl
    exact (hb2 k (by omega) (by simp at hl; omega)).trans (hb.block k hk hl)
  · intro q hq
    simp only [List.mem_cons, List.not_mem_nil, or_false] at hq
    subst hq
    exact ⟨World.cell?_setCell_same _ _ _ hcell, (World.frozen?_setCell _ _ _ _).trans hfroz⟩
  · exact (OwnP.push hv hp hq hu hg h4).setCell (by simp only; omega) _
theorem keepB0 {B : Nat} {w w' : World} {a : Addr} {v : Value} (h : Below B w w') (hc : w.cell? a = some v) (ha : a.block < B) : w'.cell? a = some v := (h.cell ha).trans hc
set_option maxRecDepth 100000 in
set_option maxHeartbeats 4000000 in
theorem write_yes (g : Nat) (le mo bi : Int) (L : List (BitVec 8)) (b : List (BitVec 8)) (A : Option Addr) (cap : Nat) (w : World) (hok : okC le mo bi) (hg : g < w.heap.size) (hcut : CutAt w g le mo bi L) (hr : RdB w A b) (hnil : A = none → cap = 0) (hc : b.length ≤ cap) (hmax : L.length + b.length ≤ 1048576) :
    Calls Try.prog 24 #[.pointer (some ⟨g, 0, none⟩), .slice A b.length cap] w fun e w' => ∃ v, e = .returned (.tuple #[v, .int .i64 0]) ∧ OwnP w' w.heap.size v (splitE le mo bi (L ++ b)).1 ∧ CutAt w' g le mo bi (splitE le mo bi (L ++ b)).2 ∧ Besides [g] w w' := by
  obtain ⟨i0, hi, hz0, hz1, hz2⟩ := info_parts info24
  have IS := Lib.hid (callsIn_wide (n := 4) |>.2 (is_yes g le mo bi L w hok hcut))
  have Hok := Lib.hid hok
  obtain ⟨T, hT⟩ : ∃ T, splitE le mo bi (L ++ b) = T := ⟨_, rfl⟩
  rw [hT]
  have HT := Lib.hid hT
  have HCUT := Lib.hid hcut
  obtain ⟨vl, hk, ho, hct⟩ := hcut
  have HCT := Lib.hid hct
  clear hct
  obtain ⟨k0, k00⟩ := hk (⟨g, 0, none⟩, .int .i64 le) (by simp)
  obtain ⟨k1, k11⟩ := hk (⟨g, 1, none⟩, .int .i64 mo) (by simp)
  obtain ⟨k2, k22⟩ := hk (⟨g, 2, none⟩, .int .i64 bi) (by simp)
  obtain ⟨k3, k33⟩ := hk (⟨g, 3, none⟩, vl) (by simp)
  dsimp only at k0 k1 k2 k3 k00 k11 k22 k33
  obtain ⟨B, c, rfl, hBc, hBr, hBn⟩ := own_bytes ho
  clear hk ho hok hT
  refine (callsIn_wide (n := 5)).1 (callsIn_of_wp_marks Try.func24 rfl trivial ?_ rfl)
  simp only [Try.ntmps24, List.size_toArray, List.length_cons, List.length_nil, Nat.reduceAdd, Nat.reduceSub, Array.replicate_succ, Array.replicate_zero, List.push_toArray, List.append_toArray, List.nil_append, List.cons_append]
  gi_wp2_with (first | (gi_at_call 33; refine IS.out.mono ?_; rintro e w' ⟨rfl, rfl⟩) | (gi_at_builtin; refine wpListIn_append_bytes rfl (.tmp 13) (.tmp 17) rfl w.heap.size (.slice (some ⟨w.heap.size, 0, none⟩) 0 0) 0 [] rfl (own_empty w 5 1) B c L rfl (RdB.alloc' hBr _) hBn hBc (by omega) (by simp) ?_; intro v1 w1 own1 grow1 nn1; have b1 : Below w.heap.size w w1 := ((Below.refl _ _).alloc (Nat.le_refl _) _).grown grow1 (by simp) (own_base' (own_empty w 5 1))) | (gi_at_builtin; refine wpListIn_append_bytes rfl (.tmp 18) (.tmp 19) rfl w.heap.size v1 (0 + L.length) ([] ++ bytesV L) rfl own1 A cap b rfl (RdR.below (R' := EqB) hr b1 (fun _ _ h => h)) hnil hc (by omega) b1.size ?_; intro v2 w2 own2 grow2 nn2; have b2 : Below w.heap.size w w2 := b1.grown grow2 b1.size (own_base' own1); have nn := nn2 (nn1 (by simp)); obtain ⟨ga, ca, hv2, hga⟩ := own_form own2 nn; rw [hv2] at own2 ⊢; clear nn; have m0 := keepB0 b2 k0 hg; have m1 := keepB0 b2 k1 hg; have m2 := keepB0 b2 k2 hg; have hg2 : g < w2.heap.size := Nat.lt_of_lt_of_le hg b2.size; have hg3 : g < w2.heap.size + 1 := Nat.lt_succ_of_lt hg2) | (gi_at_call 32; refine (callsIn_wide.2 (chunks_any le mo bi _ _ _ ⟨_, _, _, rfl⟩)).mono ?_; rintro e w' ⟨rfl, rfl⟩))
  simp only [Nat.zero_add, List.nil_append, ← bytesV_app] at own2
  have hall : (L ++ b).length = L.length + b.length := List.length_append
  generalize L ++ b = all at *
  have rall : RdB w2 (some ⟨ga, 0, none⟩) all := RdB.own own2
  have hcall : L.length + b.length ≤ ca := own_cap own2
  have hga2 : ga < w2.heap.size := (own2.lt ga rfl).2
  obtain ⟨W0, hW0⟩ : ∃ W0, W0 = (((((w2.alloc (Obj.cells #[Value.slice none 0 0] 42)).alloc (Obj.cells #[Value.slice none 0 0] 24)).alloc (confO le mo bi)).alloc (Obj.cells #[Value.slice (some { block := ga, off := 0 }) (L.length + b.length) ca] 24)).alloc (Obj.cells #[Value.pointer (some { block := w2.heap.size + 1, off := 0 })] 70)) := ⟨_, rfl⟩
  rw [← hW0]
  rw [← hall] at hW0 ⊢
  obtain ⟨gl, hgl⟩ : ∃ g, w2.heap.size = g := ⟨_, rfl⟩
  obtain ⟨r, hr'⟩ : ∃ g, w2.heap.size + 1 = g := ⟨_, rfl⟩
  obtain ⟨bc, hbc⟩ : ∃ g, w2.heap.size + 1 + 1 = g := ⟨_, rfl⟩
  obtain ⟨bb, hbb⟩ : ∃ g, w2.heap.size + 1 + 1 + 1 = g := ⟨_, rfl⟩
  obtain ⟨br, hbr⟩ : ∃ g, w2.heap.size + 1 + 1 + 1 + 1 = g := ⟨_, rfl⟩
  have q0 : Keeps (privC le mo bi bc bb br r ⟨some ⟨ga, 0, none⟩, ca, all, []⟩) W0 := by
    intro q hq
    simp only [privC, List.mem_cons, List.not_mem_nil, or_false] at hq
    subst hgl hr' hbc hbb hbr
    rcases hq with rfl | rfl | rfl | rfl | rfl <;> (rw [hW0]; simp [go_sem])
  have q1 : Keeps [(⟨gl, 0, none⟩, .slice none 0 0)] W0 := by
    intro q hq
    simp only [List.mem_cons, List.not_mem_nil, or_false] at hq
    subst hgl hr' hbc hbb hbr
    subst hq
    rw [hW0]; simp [go_sem]
  have q2 : Var r W0 := by
    subst hgl hr' hbc hbb hbr
    exact ⟨.slice none 0 0, by rw [hW0]; simp [go_sem], by rw [hW0]; simp [go_sem]⟩
  have b20 : Below w2.heap.size w2 W0 := by
    rw [hW0]
    refine (((((Below.refl _ _).alloc (Nat.le_refl _) _).alloc ?_ _).alloc ?_ _).alloc ?_ _).alloc ?_ _ <;> (simp; try omega)
  have b0 : Below w.heap.size w W0 := b2.trans (b20.mono b2.size)
  have rall0 : RdB W0 (some ⟨ga, 0, none⟩) all := RdR.below (R' := EqB) rall b20 (fun _ _ h => h)
  have hsz : W0.heap.size = br + 1 := by rw [hW0, ← hbr]; simp
  have o0 : w.heap.size ≤ gl := by have := b2.size; omega
  have o1 : ga < gl := by omega
  have o3 : gl < r := by omega
  have o4 : r < bc := by omega
  have o5 : bc < bb := by omega
  have o6 : bb < br := by omega
  rw [hbr, hbb, hbc, hr', hgl]
  rw [← hall] at hcall
  have HALL := Lib.hid hall
  clear hall hW0 hgl hr' hbc hbb hbr rall own2 own1 grow1 grow2 nn1 nn2 hv2 b1 b2 b20 m0 m1 m2 hga2 hg2 hg3 hBr hBn hr IS
  have hps : ∀ (x : Option Addr × Nat), ((fun q : Option Addr × Nat => #[Value.slice q.1 q.2 q.2]) x).size = (#[27] : Array Tmp).size := fun _ => rfl
  refine range_law2 (gf := 35) (lb := #[.pointer (some ⟨bc, 0, none⟩), .pointer (some ⟨bb, 0, none⟩), .pointer (some ⟨br, 0, none⟩)]) (by omega) rfl (enters_of Try.func35 (by kernel_rfl) rfl) (encs := fun q : Option Addr × Nat => #[Value.slice q.1 q.2 q.2]) hps
    (I := fun (s : CS) (W : World) => ((s.p ++ (splitE le mo bi s.r).1, (splitE le mo bi s.r).2) = T ∧ s.r.length ≤ s.c ∧ (∃ off, s.B = some ⟨ga, off, none⟩) ∧ s.r.length + s.p.length ≤ 1048576) ∧ RdB W s.B s.r ∧ Besides [gl, bb, r] W0 W ∧ ∃ v, Keeps [(⟨gl, 0, none⟩, v)] W ∧ OwnP W (br + 1) v s.p)
    (ask := askC le mo bi) (step := stepC le mo bi) (Fix := Fixed (cellsC bc bb br r)) (Stab := Besides [bb, r]) (s0 := ⟨some ⟨ga, 0, none⟩, ca, all, []⟩) (Start := fun W => Keeps (privC le mo bi bc bb br r ⟨some ⟨ga, 0, none⟩, ca, all, []⟩) W ∧ Var r W) (End := fun s W => W.cell? ⟨r, 0, none⟩ = some (.slice s.B s.r.length s.c)) (Ix := fun _ _ _ => False)
    (iterC_any _ (by omega) le mo bi Hok.out bc bb br r (by omega) (by omega) (by omega) (by omega) (by omega) _ ?hI _) (fun _ _ h => h.others) ?hIs (fun _ _ _ _ h _ => h) ?hIput (fun _ _ _ _ _ _ h _ _ _ => h) ?hIalloc (fun _ _ _ => Fixed.trans) ?hFput ?hSalloc ?hEput ?h0 ⟨q0, q2⟩
    (fun x => { tmps := #[.pointer (some ⟨g, 0, none⟩), .slice A b.length cap, undef, undef, .slice none 0 0, .int .i64 0, .slice (some ⟨ga, 0, none⟩) all.length ca, .pointer (some ⟨gl, 0, none⟩), .pointer (some ⟨r, 0, none⟩), .slice x.1 x.2 x.2, .pointer (some ⟨g, 0, none⟩), .bool true, .bool false, .slice (some ⟨w.heap.size, 0, none⟩) 0 0, .pointer (some ⟨g, 0, none⟩), .pointer (some ⟨g, 0, none⟩), .pointer (some ⟨g, 3, none⟩), .slice B L.length c, v1, .slice A b.length cap, .slice (some ⟨ga, 0, none⟩) all.length ca, .pointer (some ⟨g, 0, none⟩), .pointer (some ⟨g, 0, none⟩), .pointer (some ⟨g, 0, none⟩), .agg #[.int .i64 le, .int .i64 mo, .int .i64 bi], .slice (some ⟨ga, 0, none⟩) all.length ca, .func (.func 35) #[] #[.pointer (some ⟨bc, 0, none⟩), .pointer (some ⟨bb, 0, none⟩), .pointer (some ⟨br, 0, none⟩)], .slice x.1 x.2 x.2, undef, undef, undef, undef, undef, undef, undef, undef, undef, undef, undef, undef, undef], defers := [] }) ?hassign ?hbody ?hdone ?hstop
  case hI =>
    rintro s W ⟨⟨_, h2, _⟩, h3, _⟩
    exact ⟨h3, h2⟩
  case hIs =>
    rintro s W W' ⟨⟨h1, h2, ⟨off, h3⟩, h4⟩, hrd, hb, v, hk, ho⟩ hS
    refine ⟨⟨h1, h2, ⟨off, h3⟩, h4⟩, rdB_block hrd (fun ad e => ?_), hb.trans (hS.more (by simp)), v, hk.besides hS (by simp; omega), ho.besides hS (by simp; omega)⟩
    rw [h3] at e
    cases e
    exact hS.block ga (by have := hb.size; omega) (by simp; omega)
  case hIput =>
    rintro s W j o o' ⟨⟨h1, h2, ⟨off, h3⟩, h4⟩, hrd, hb, v, hk, ho⟩ hl ho1 ho2
    refine ⟨⟨h1, h2, ⟨off, h3⟩, h4⟩, rdB_block hrd (fun ad e => ?_), hb.put hl _, v, hk.put j (by simp; omega) _, ho.put o' ho1 ho2⟩
    rw [h3] at e
    cases e
    exact World.putObj_heap_other (show ga ≠ j by omega)
  case hIalloc =>
    rintro s W o ⟨h1, hrd, hb, v, hk, ho⟩ _
    exact ⟨h1, RdB.alloc' hrd _, hb.alloc _, v, hk.alloc _, ho.below ((Below.refl _ _).alloc (Nat.le_refl _) _)⟩
  case hFput =>
    rintro W j o o' hl _ _
    exact Fixed.put (by simp [cellsC]; omega) _
  case hSalloc =>
    rintro W o ⟨h1, h2⟩ _
    exact ⟨h1.alloc _, h2.below ((Below.refl _ _).alloc (Nat.le_refl _) _)⟩
  case hEput =>
    rintro s W j o o' h hl _ _
    exact (World.cell?_of_block (World.putObj_heap_other (show r ≠ j by omega))).trans h
  case h0 => exact ⟨⟨by simpa using HT.out, by exact hcall, ⟨0, rfl⟩, by simp only [List.length_nil, HALL.out]; omega⟩, rall0, Besides.refl _ _, _, q1, OwnP.nil _ _⟩
  case hassign =>
    intro l x W K hK
    gi_wp2
    exact hK
  case hbody =>
    rintro j ⟨B', c', R, p⟩ x W ⟨⟨h1, h2, ⟨off, h3⟩, h4⟩, hrd, hb, v, hk, ho⟩ hask
    dsimp only at h1 h2 h3 h4 hrd ho
    subst h3
    have hnx := fun h => next_some le mo bi Hok.out R h
    have hstep : stepC le mo bi ⟨some ⟨ga, off, none⟩, c', R, p⟩ = { B := if c' = (nextL le mo bi R 0 0).1 then some ⟨ga, off, none⟩ else Option.map (fun x => x.add (nextL le mo bi R 0 0).1) (some (⟨ga, off, none⟩ : Addr)), c := c' - (nextL le mo bi R 0 0).1, r := R.drop (nextL le mo bi R 0 0).1, p := p ++ [R.take (nextL le mo bi R 0 0).1] } := rfl
    have hsp := fun h => splitE_step le mo bi Hok.out R h
    have hask' : (if (nextL le mo bi R 0 0).2 then some (some (⟨ga, off, none⟩ : Addr), (nextL le mo bi R 0 0).1) else none) = some x := hask
    obtain ⟨⟨m, ok⟩, hN⟩ : ∃ N, nextL le mo bi R 0 0 = N := ⟨_, rfl⟩
    rw [hN] at hnx hask' hstep hsp
    simp only at hnx hask' hstep hsp
    cases ok with
    | false => cases hask'
    | true =>
      obtain rfl : (some ⟨ga, off, none⟩, m) = x := by simpa using hask'
      obtain ⟨hm1, hm2⟩ := hnx rfl
      rw [hsp rfl] at h1
      simp only at h1
      have hdrop := hrd.drop m c' hm2 h2
      have htake : RdB W (some ⟨ga, off, none⟩) (R.take m) := hrd.take m
      have hlt : (R.take m).length = m := by rw [List.length_take]; omega
      have hld : (R.drop m).length = R.length - m := List.length_drop
      obtain ⟨kc, kf⟩ := hk (⟨gl, 0, none⟩, v) (by simp)
      dsimp only at kc kf
      have H1 := Lib.hid h1
      have Hs := Lib.hid hstep
      have Hl := Lib.hid (And.intro hlt hld)
      have HO := Lib.hid ho
      have bW := hb.size
      clear hask hask' hN hnx hstep hsp h1 hlt hld ho
      obtain ⟨q, hq⟩ : ∃ q, R.take m = q := ⟨_, rfl⟩
      obtain ⟨R', hR'⟩ : ∃ q, R.drop m = q := ⟨_, rfl⟩
      rw [hq] at H1 Hs Hl htake
      rw [hR'] at H1 Hs Hl hdrop
      have hqm := Hl.out.1
      clear hq hR'
      gi_wp2
      have HQM := Lib.hid hqm
      have hqm1 : q.length ≤ m := by omega
      clear hqm
      refine wpIn_noPanic ?_
      refine wpIn_region_round (fun _ => True) rfl (by kernel_rfl) (by rintro ⟨_, _, h⟩; exact h) ?_
      refine wpAnyH_take (i := 2) (v := .slice (some ⟨ga, off, none⟩) m m) rfl (by kernel_rfl) (by kernel_rfl) (by kernel_rfl) (fun _ _ _ h => h) (Or.inl ⟨by kernel_rfl, ?_⟩) trivial ?_
      · intro W hSw
        go_simp
      try simp only [Act.put, List.setIfInBounds_toArray, List.set_cons_zero, List.set_cons_succ]
      obtain ⟨V, hV⟩ : ∃ V, W.drew = V := ⟨_, rfl⟩
      have bV : Below W.heap.size W V := hV ▸ (Below.refl _ _).drew
      have zV1 : V.heap.size ≤ W.heap.size := by rw [← hV]; exact Nat.le_refl _
      have zV2 : W.heap.size ≤ V.heap.size := bV.size
      rw [hV]
      clear hV
      have tkV : RdB V (some ⟨ga, off, none⟩) q := RdR.below (R' := EqB) htake bV (fun _ _ h => h)
      have kcV : V.cell? ⟨gl, 0, none⟩ = some v := (bV.cell (show gl < W.heap.size by omega)).trans kc
      have kfV : V.frozen? ⟨gl, 0, none⟩ = false := (bV.frozen (p := ⟨gl, 0, none⟩) (show gl < W.heap.size by omega)).trans kf
      have gV : gl < V.heap.size := by omega
      have gV1 : gl < V.heap.size + 1 := by omega
      have HOV := Lib.hid (HO.out.below bV)
      refine wpAnyH_ready (rs := [0, 1]) (by kernel_rfl) (by simp) ?_
      refine AllReadyH.cons rfl (fun K hK => ?_) (AllReadyH.cons rfl (fun K hK => ?_) AllReadyH.nil)
      · skip
        go_simp
        refine hK.out _ _ trivial (fun _ => ?_)
        clear hK K
        try simp only [Act.put, List.setIfInBounds_toArray, List.set_cons_zero, List.set_cons_succ]
        refine wpAnyH_ready (rs := [1]) (by kernel_rfl) (by simp) ?_
        refine AllReadyH.cons rfl (fun K hK => ?_) AllReadyH.nil
        go_simp
        refine hK.out _ _ trivial (fun _ => ?_)
        clear hK K
        try simp only [Act.put, List.setIfInBounds_toArray, List.set_cons_zero, List.set_cons_succ]
        refine wpAnyH_ready (rs := [3]) (by kernel_rfl) (by simp) ?_
        refine AllReadyH.cons rfl (fun K hK => ?_) AllReadyH.nil
        refine Eq.mpr (if_pos ?hc) ?_
        case hc => kernel_rfl
        refine wp_append_bytes (.tmp 29) (.tmp 30) rfl V.heap.size (.slice (some ⟨V.heap.size, 0, none⟩) 0 0) 0 [] rfl (own_empty V 5 1) (some ⟨ga, off, none⟩) m q (by rw [HQM.out]; rfl) (RdB.alloc' tkV _) (fun h => by cases h) (by rw [HQM.out]; exact Nat.le_refl _) (by omega) (by simp) ?_
        intro u w2 ownu growu nnu
        have b2 : Below V.heap.size V w2 := ((Below.refl _ _).alloc (Nat.le_refl _) _).grown growu (by simp) (own_base' (own_empty V 5 1))
        have nu := nnu (by simp)
        clear nnu growu
        have kl2 : w2.cell? ⟨gl, 0, none⟩ = some v := (b2.cell (show gl < V.heap.size by omega)).trans kcV
        have z2 := b2.size
        have gV2 : gl < w2.heap.size := by omega
        have gV3 : gl < w2.heap.size + 1 := by omega
        rw [Nat.zero_add, List.nil_append] at ownu
        obtain ⟨gu, cu, rfl, hgu⟩ := own_form ownu nu
        refine hK.out _ _ trivial (fun _ => ?_)
        clear hK K
        try simp only [Act.put, List.setIfInBounds_toArray, List.set_cons_zero, List.set_cons_succ]
        refine wpAnyH_ready (rs := [4]) (by kernel_rfl) (by simp) ?_
        refine AllReadyH.cons rfl (fun K hK => ?_) AllReadyH.nil
        go_simp
        have b3 : Below V.heap.size V (w2.alloc (.cells #[.slice (some ⟨gu, 0, none⟩) q.length cu] 24)) := b2.alloc b2.size _
        have kl3 : (w2.alloc (.cells #[.slice (some ⟨gu, 0, none⟩) q.length cu] 24)).cell? ⟨gl, 0, none⟩ = some v := (b3.cell (show gl < V.heap.size by omega)).trans kcV
        obtain ⟨vs, hv, hp⟩ := HOV.out.below b3
        have hq : (w2.alloc (.cells #[.slice (some ⟨gu, 0, none⟩) q.length cu] 24)).ownsRow (br + 1) 5 1 (.slice (some ⟨gu, 0, none⟩) q.length cu) q.length (bytesV q) := own_mono (own_below ownu ((Below.refl _ _).alloc (Nat.le_refl _) _)) (by omega)
        refine hK.out _ _ trivial (fun _ => ?_)
        clear hK K
        try simp only [Act.put, List.setIfInBounds_toArray, List.set_cons_zero, List.set_cons_succ]
        refine wpAnyH_ready (rs := [5]) (by kernel_rfl) (by simp) ?_
        refine AllReadyH.cons rfl (fun K hK => ?_) AllReadyH.nil
        refine Eq.mpr (if_pos ?hc) ?_
        case hc => kernel_rfl
        refine wp_append_own _ (.tmp 28) (.tmp 32) 42 rfl (br + 1) 24 i0 (.slice none 0 0) 1 24 Try.underlying42 hi hz0 hz1 hz2 rfl (by decide) v p.length vs rfl hv ⟨w2.heap.size, 0, none⟩ 1 1 [Value.slice (some ⟨gu, 0, none⟩) q.length cu] rfl rfl (cell_one_new _ _ _) (fun u hu => by simp only [List.mem_cons, List.not_mem_nil, or_false] at hu; subst hu; rfl) (by unfold maxLen; omega) (by omega) (by simp; omega) ?_
        intro v2 w4 own4 grow4 _
        obtain ⟨g4, c4, hv4⟩ := Joins.ownsRow_form own4 (by omega)
        subst hv4
        have hrow4 := own_base' hv
        have bl4 := (grow4.block gl (by simp; omega) (fun e => by have := hrow4 _ e.symm; omega)).trans (b3.block gl (by omega))
        have kl4 : w4.cell? ⟨gl, 0, none⟩ = some v := (World.cell?_of_block bl4).trans kcV
        have kf4 : w4.frozen? ⟨gl, 0, none⟩ = false := (World.frozen?_of_block bl4).trans kfV
        clear bl4 hrow4
        refine hK.out _ _ trivial (fun _ => ?_)
        clear hK K
        try simp only [Act.put, List.setIfInBounds_toArray, List.set_cons_zero, List.set_cons_succ]
        refine wpAnyH_ready (rs := [6]) (by kernel_rfl) (by simp) ?_
        refine AllReadyH.cons rfl (fun K hK => ?_) AllReadyH.nil
        go_simp
        refine hK.out _ _ trivial (fun _ => ?_)
        clear hK K
        try simp only [Act.put, List.setIfInBounds_toArray, List.set_cons_zero, List.set_cons_succ]
        refine wpAnyH_done (by kernel_rfl) ?_ _
        show KeepsOthers W _ ∧ _
        rw [Hs.out]
        obtain ⟨e1, e2, e3, e4, e5⟩ := round_end hb hsz (by omega) (bV.trans (b3.mono (by omega))) hv hp hq nu grow4 own4 kc kf
        have hoff : ∃ off2, (if c' = m then some (⟨ga, off, none⟩ : Addr) else Option.map (fun x => x.add m) (some (⟨ga, off, none⟩ : Addr))) = some ⟨ga, off2, none⟩ := by split; exact ⟨_, rfl⟩; exact ⟨off + m, by simp [Addr.add]; omega⟩
        refine ⟨e1, ⟨⟨?_, ?_, hoff, ?_⟩, ?_, e2, _, e3, e4⟩, ?_⟩
        · simp only [List.append_assoc, List.cons_append, List.nil_append]
          exact H1.out
        · have := Hl.out.2
          simp only; omega
        · have := Hl.out.2
          simp only [List.length_append, List.length_cons, List.length_nil]; omega
        · obtain ⟨off2, hoff⟩ := hoff
          simp only at hdrop ⊢
          rw [hoff] at hdrop ⊢
          exact rdB_block hdrop (fun ad e => by cases e; exact e5 ga (by omega) (by omega))
        · refine Fixed.of_block (fun a ha => ?_)
          have hab : a.block ≠ gl ∧ a.block ≤ br := by
            simp only [cellsC, List.mem_cons, List.not_mem_nil, or_false] at ha
            rcases ha with rfl | rfl | rfl | rfl | rfl | rfl <;> (simp only; omega)
          exact e5 _ hab.2 hab.1
      · skip
        go_simp
        refine hK.out _ _ trivial (fun _ => ?_)
        clear hK K
        try simp only [Act.put, List.setIfInBounds_toArray, List.set_cons_zero, List.set_cons_succ]
        refine wpAnyH_ready (rs := [0, 3]) (by kernel_rfl) (by simp) ?_
        refine AllReadyH.cons rfl (fun K hK => ?_) (AllReadyH.cons rfl (fun K hK => ?_) AllReadyH.nil)
        · skip
          go_simp
          refine hK.out _ _ trivial (fun _ => ?_)
          clear hK K
          try simp only [Act.put, List.setIfInBounds_toArray, List.set_cons_zero, List.set_cons_succ]
          refine wpAnyH_ready (rs := [3]) (by kernel_rfl) (by simp) ?_
          refine AllReadyH.cons rfl (fun K hK => ?_) AllReadyH.nil
          refine Eq.mpr (if_pos ?hc) ?_
          case hc => kernel_rfl
          refine wp_append_bytes (.tmp 29) (.tmp 30) rfl V.heap.size (.slice (some ⟨V.heap.size, 0, none⟩) 0 0) 0 [] rfl (own_empty V 5 1) (some ⟨ga, off, none⟩) m q (by rw [HQM.out]; rfl) (RdB.alloc' tkV _) (fun h => by cases h) (by rw [HQM.out]; exact Nat.le_refl _) (by omega) (by simp) ?_
          intro u w2 ownu growu nnu
          have b2 : Below V.heap.size V w2 := ((Below.refl _ _).alloc (Nat.le_refl _) _).grown growu (by simp) (own_base' (own_empty V 5 1))
          have nu := nnu (by simp)
          clear nnu growu
          have kl2 : w2.cell? ⟨gl, 0, none⟩ = some v := (b2.cell (show gl < V.heap.size by omega)).trans kcV
          have z2 := b2.size
          have gV2 : gl < w2.heap.size := by omega
          have gV3 : gl < w2.heap.size + 1 := by omega
          rw [Nat.zero_add, List.nil_append] at ownu
          obtain ⟨gu, cu, rfl, hgu⟩ := own_form ownu nu
          refine hK.out _ _ trivial (fun _ => ?_)
          clear hK K
          try simp only [Act.put, List.setIfInBounds_toArray, List.set_cons_zero, List.set_cons_succ]
          refine wpAnyH_ready (rs := [4]) (by kernel_rfl) (by simp) ?_
          refine AllReadyH.cons rfl (fun K hK => ?_) AllReadyH.nil
          go_simp
          have b3 : Below V.heap.size V (w2.alloc (.cells #[.slice (some ⟨gu, 0, none⟩) q.length cu] 24)) := b2.alloc b2.size _
          have kl3 : (w2.alloc (.cells #[.slice (some ⟨gu, 0, none⟩) q.length cu] 24)).cell? ⟨gl, 0, none⟩ = some v := (b3.cell (show gl < V.heap.size by omega)).trans kcV
          obtain ⟨vs, hv, hp⟩ := HOV.out.below b3
          have hq : (w2.alloc (.cells #[.slice (some ⟨gu, 0, none⟩) q.length cu] 24)).ownsRow (br + 1) 5 1 (.slice (some ⟨gu, 0, none⟩) q.length cu) q.length (bytesV q) := own_mono (own_below ownu ((Below.refl _ _).alloc (Nat.le_refl _) _)) (by omega)
          refine hK.out _ _ trivial (fun _ => ?_)
          clear hK K
          try simp only [Act.put, List.setIfInBounds_toArray, List.set_cons_zero, List.set_cons_succ]
          refine wpAnyH_ready (rs := [5]) (by kernel_rfl) (by simp) ?_
          refine AllReadyH.cons rfl (fun K hK => ?_) AllReadyH.nil
          refine Eq.mpr (if_pos ?hc) ?_
          case hc => kernel_rfl
          refine wp_append_own _ (.tmp 28) (.tmp 32) 42 rfl (br + 1) 24 i0 (.slice none 0 0) 1 24 Try.underlying42 hi hz0 hz1 hz2 rfl (by decide) v p.length vs rfl hv ⟨w2.heap.size, 0, none⟩ 1 1 [Value.slice (some ⟨gu, 0, none⟩) q.length cu] rfl rfl (cell_one_new _ _ _) (fun u hu => by simp only [List.mem_cons, List.not_mem_nil, or_false] at hu; subst hu; rfl) (by unfold maxLen; omega) (by omega) (by simp; omega) ?_
          intro v2 w4 own4 grow4 _
          obtain ⟨g4, c4, hv4⟩ := Joins.ownsRow_form own4 (by omega)
          subst hv4
          have hrow4 := own_base' hv
          have bl4 := (grow4.block gl (by simp; omega) (fun e => by have := hrow4 _ e.symm; omega)).trans (b3.block gl (by omega))
          have kl4 : w4.cell? ⟨gl, 0, none⟩ = some v := (World.cell?_of_block bl4).trans kcV
          have kf4 : w4.frozen? ⟨gl, 0, none⟩ = false := (World.frozen?_of_block bl4).trans kfV
          clear bl4 hrow4
          refine hK.out _ _ trivial (fun _ => ?_)
          clear hK K
          try simp only [Act.put, List.setIfInBounds_toArray, List.set_cons_zero, List.set_cons_succ]
          refine wpAnyH_ready (rs := [6]) (by kernel_rfl) (by simp) ?_
          refine AllReadyH.cons rfl (fun K hK => ?_) AllReadyH.nil
          go_simp
          refine hK.out _ _ trivial (fun _ => ?_)
          clear hK K
          try simp only [Act.put, List.setIfInBounds_toArray, List.set_cons_zero, List.set_cons_succ]
          refine wpAnyH_done (by kernel_rfl) ?_ _
          show KeepsOthers W _ ∧ _
          rw [Hs.out]
          obtain ⟨e1, e2, e3, e4, e5⟩ := round_end hb hsz (by omega) (bV.trans (b3.mono (by omega))) hv hp hq nu grow4 own4 kc kf
          have hoff : ∃ off2, (if c' = m then some (⟨ga, off, none⟩ : Addr) else Option.map (fun x => x.add m) (some (⟨ga, off, none⟩ : Addr))) = some ⟨ga, off2, none⟩ := by split; exact ⟨_, rfl⟩; exact ⟨off + m, by simp [Addr.add]; omega⟩
          refine ⟨e1, ⟨⟨?_, ?_, hoff, ?_⟩, ?_, e2, _, e3, e4⟩, ?_⟩
          · simp only [List.append_assoc, List.cons_append, List.nil_append]
            exact H1.out
          · have := Hl.out.2
            simp only; omega
          · have := Hl.out.2
            simp only [List.length_append, List.length_cons, List.length_nil]; omega
          · obtain ⟨off2, hoff⟩ := hoff
            simp only at hdrop ⊢
            rw [hoff] at hdrop ⊢
            exact rdB_block hdrop (fun ad e => by cases e; exact e5 ga (by omega) (by omega))
          · refine Fixed.of_block (fun a ha => ?_)
            have hab : a.block ≠ gl ∧ a.block ≤ br := by
              simp only [cellsC, List.mem_cons, List.not_mem_nil, or_false] at ha
              rcases ha with rfl | rfl | rfl | rfl | rfl | rfl <;> (simp only; omega)
            exact e5 _ hab.2 hab.1
        · skip
          refine Eq.mpr (if_pos ?hc) ?_
          case hc => kernel_rfl
          refine wp_append_bytes (.tmp 29) (.tmp 30) rfl V.heap.size (.slice (some ⟨V.heap.size, 0, none⟩) 0 0) 0 [] rfl (own_empty V 5 1) (some ⟨ga, off, none⟩) m q (by rw [HQM.out]; rfl) (RdB.alloc' tkV _) (fun h => by cases h) (by rw [HQM.out]; exact Nat.le_refl _) (by omega) (by simp) ?_
          intro u w2 ownu growu nnu
          have b2 : Below V.heap.size V w2 := ((Below.refl _ _).alloc (Nat.le_refl _) _).grown growu (by simp) (own_base' (own_empty V 5 1))
          have nu := nnu (by simp)
          clear nnu growu
          have kl2 : w2.cell? ⟨gl, 0, none⟩ = some v := (b2.cell (show gl < V.heap.size by omega)).trans kcV
          have z2 := b2.size
          have gV2 : gl < w2.heap.size := by omega
          have gV3 : gl < w2.heap.size + 1 := by omega
          rw [Nat.zero_add, List.nil_append] at ownu
          obtain ⟨gu, cu, rfl, hgu⟩ := own_form ownu nu
          refine hK.out _ _ trivial (fun _ => ?_)
          clear hK K
          try simp only [Act.put, List.setIfInBounds_toArray, List.set_cons_zero, List.set_cons_succ]
          refine wpAnyH_ready (rs := [0, 4]) (by kernel_rfl) (by simp) ?_
          refine AllReadyH.cons rfl (fun K hK => ?_) (AllReadyH.cons rfl (fun K hK => ?_) AllReadyH.nil)
          · skip
            go_simp
            refine hK.out _ _ trivial (fun _ => ?_)
            clear hK K
            try simp only [Act.put, List.setIfInBounds_toArray, List.set_cons_zero, List.set_cons_succ]
            refine wpAnyH_ready (rs := [4]) (by kernel_rfl) (by simp) ?_
            refine AllReadyH.cons rfl (fun K hK => ?_) AllReadyH.nil
            go_simp
            have b3 : Below V.heap.size V (w2.alloc (.cells #[.slice (some ⟨gu, 0, none⟩) q.length cu] 24)) := b2.alloc b2.size _
            have kl3 : (w2.alloc (.cells #[.slice (some ⟨gu, 0, none⟩) q.length cu] 24)).cell? ⟨gl, 0, none⟩ = some v := (b3.cell (show gl < V.heap.size by omega)).trans kcV
            obtain ⟨vs, hv, hp⟩ := HOV.out.below b3
            have hq : (w2.alloc (.cells #[.slice (some ⟨gu, 0, none⟩) q.length cu] 24)).ownsRow (br + 1) 5 1 (.slice (some ⟨gu, 0, none⟩) q.length cu) q.length (bytesV q) := own_mono (own_below ownu ((Below.refl _ _).alloc (Nat.le_refl _) _)) (by omega)
            refine hK.out _ _ trivial (fun _ => ?_)
            clear hK K
            try simp only [Act.put, List.setIfInBounds_toArray, List.set_cons_zero, List.set_cons_succ]
            refine wpAnyH_ready (rs := [5]) (by kernel_rfl) (by simp) ?_
            refine AllReadyH.cons rfl (fun K hK => ?_) AllReadyH.nil
            refine Eq.mpr (if_pos ?hc) ?_
            case hc => kernel_rfl
            refine wp_append_own _ (.tmp 28) (.tmp 32) 42 rfl (br + 1) 24 i0 (.slice none 0 0) 1 24 Try.underlying42 hi hz0 hz1 hz2 rfl (by decide) v p.length vs rfl hv ⟨w2.heap.size, 0, none⟩ 1 1 [Value.slice (some ⟨gu, 0, none⟩) q.length cu] rfl rfl (cell_one_new _ _ _) (fun u hu => by simp only [List.mem_cons, List.not_mem_nil, or_false] at hu; subst hu; rfl) (by unfold maxLen; omega) (by omega) (by simp; omega) ?_
            intro v2 w4 own4 grow4 _
            obtain ⟨g4, c4, hv4⟩ := Joins.ownsRow_form own4 (by omega)
            subst hv4
            have hrow4 := own_base' hv
            have bl4 := (grow4.block gl (by simp; omega) (fun e => by have := hrow4 _ e.symm; omega)).trans (b3.block gl (by omega))
            have kl4 : w4.cell? ⟨gl, 0, none⟩ = some v := (World.cell?_of_block bl4).trans kcV
            have kf4 : w4.frozen? ⟨gl, 0, none⟩ = false := (World.frozen?_of_block bl4).trans kfV
            clear bl4 hrow4
            refine hK.out _ _ trivial (fun _ => ?_)
            clear hK K
            try simp only [Act.put, List.setIfInBounds_toArray, List.set_cons_zero, List.set_cons_succ]
            refine wpAnyH_ready (rs := [6]) (by kernel_rfl) (by simp) ?_
            refine AllReadyH.cons rfl (fun K hK => ?_) AllReadyH.nil
            go_simp
            refine hK.out _ _ trivial (fun _ => ?_)
            clear hK K
            try simp only [Act.put, List.setIfInBounds_toArray, List.set_cons_zero, List.set_cons_succ]
            refine wpAnyH_done (by kernel_rfl) ?_ _
            show KeepsOthers W _ ∧ _
            rw [Hs.out]
            obtain ⟨e1, e2, e3, e4, e5⟩ := round_end hb hsz (by omega) (bV.trans (b3.mono (by omega))) hv hp hq nu grow4 own4 kc kf
            have hoff : ∃ off2, (if c' = m then some (⟨ga, off, none⟩ : Addr) else Option.map (fun x => x.add m) (some (⟨ga, off, none⟩ : Addr))) = some ⟨ga, off2, none⟩ := by split; exact ⟨_, rfl⟩; exact ⟨off + m, by simp [Addr.add]; omega⟩
            refine ⟨e1, ⟨⟨?_, ?_, hoff, ?_⟩, ?_, e2, _, e3, e4⟩, ?_⟩
            · simp only [List.append_assoc, List.cons_append, List.nil_append]
              exact H1.out
            · have := Hl.out.2
              simp only; omega
            · have := Hl.out.2
              simp only [List.length_append, List.length_cons, List.length_nil]; omega
            · obtain ⟨off2, hoff⟩ := hoff
              simp only at hdrop ⊢
              rw [hoff] at hdrop ⊢
              exact rdB_block hdrop (fun ad e => by cases e; exact e5 ga (by omega) (by omega))
            · refine Fixed.of_block (fun a ha => ?_)
              have hab : a.block ≠ gl ∧ a.block ≤ br := by
                simp only [cellsC, List.mem_cons, List.not_mem_nil, or_false] at ha
                rcases ha with rfl | rfl | rfl | rfl | rfl | rfl <;> (simp only; omega)
              exact e5 _ hab.2 hab.1
          · skip
            go_simp
            have b3 : Below V.heap.size V (w2.alloc (.cells #[.slice (some ⟨gu, 0, none⟩) q.length cu] 24)) := b2.alloc b2.size _
            have kl3 : (w2.alloc (.cells #[.slice (some ⟨gu, 0, none⟩) q.length cu] 24)).cell? ⟨gl, 0, none⟩ = some v := (b3.cell (show gl < V.heap.size by omega)).trans kcV
            obtain ⟨vs, hv, hp⟩ := HOV.out.below b3
            have hq : (w2.alloc (.cells #[.slice (some ⟨gu, 0, none⟩) q.length cu] 24)).ownsRow (br + 1) 5 1 (.slice (some ⟨gu, 0, none⟩) q.length cu) q.length (bytesV q) := own_mono (own_below ownu ((Below.refl _ _).alloc (Nat.le_refl _) _)) (by omega)
            refine hK.out _ _ trivial (fun _ => ?_)
            clear hK K
            try simp only [Act.put, List.setIfInBounds_toArray, List.set_cons_zero, List.set_cons_succ]
            refine wpAnyH_ready (rs := [0]) (by kernel_rfl) (by simp) ?_
            refine AllReadyH.cons rfl (fun K hK => ?_) AllReadyH.nil
            go_simp
            refine hK.out _ _ trivial (fun _ => ?_)
            clear hK K
            try simp only [Act.put, List.setIfInBounds_toArray, List.set_cons_zero, List.set_cons_succ]
            refine wpAnyH_ready (rs := [5]) (by kernel_rfl) (by simp) ?_
            refine AllReadyH.cons rfl (fun K hK => ?_) AllReadyH.nil
            refine Eq.mpr (if_pos ?hc) ?_
            case hc => kernel_rfl
            refine wp_append_own _ (.tmp 28) (.tmp 32) 42 rfl (br + 1) 24 i0 (.slice none 0 0) 1 24 Try.underlying42 hi hz0 hz1 hz2 rfl (by decide) v p.length vs rfl hv ⟨w2.heap.size, 0, none⟩ 1 1 [Value.slice (some ⟨gu, 0, none⟩) q.length cu] rfl rfl (cell_one_new _ _ _) (fun u hu => by simp only [List.mem_cons, List.not_mem_nil, or_false] at hu; subst hu; rfl) (by unfold maxLen; omega) (by omega) (by simp; omega) ?_
            intro v2 w4 own4 grow4 _
            obtain ⟨g4, c4, hv4⟩ := Joins.ownsRow_form own4 (by omega)
            subst hv4
            have hrow4 := own_base' hv
            have bl4 := (grow4.block gl (by simp; omega) (fun e => by have := hrow4 _ e.symm; omega)).trans (b3.block gl (by omega))
            have kl4 : w4.cell? ⟨gl, 0, none⟩ = some v := (World.cell?_of_block bl4).trans kcV
            have kf4 : w4.frozen? ⟨gl, 0, none⟩ = false := (World.frozen?_of_block bl4).trans kfV
            clear bl4 hrow4
            refine hK.out _ _ trivial (fun _ => ?_)
            clear hK K
            try simp only [Act.put, List.setIfInBounds_toArray, List.set_cons_zero, List.set_cons_succ]
            refine wpAnyH_ready (rs := [6]) (by kernel_rfl) (by simp) ?_
            refine AllReadyH.cons rfl (fun K hK => ?_) AllReadyH.nil
            go_simp
            refine hK.out _ _ trivial (fun _ => ?_)
            clear hK K
            try simp only [Act.put, List.setIfInBounds_toArray, List.set_cons_zero, List.set_cons_succ]
            refine wpAnyH_done (by kernel_rfl) ?_ _
            show KeepsOthers W _ ∧ _
            rw [Hs.out]
            obtain ⟨e1, e2, e3, e4, e5⟩ := round_end hb hsz (by omega) (bV.trans (b3.mono (by omega))) hv hp hq nu grow4 own4 kc kf
            have hoff : ∃ off2, (if c' = m then some (⟨ga, off, none⟩ : Addr) else Option.map (fun x => x.add m) (some (⟨ga, off, none⟩ : Addr))) = some ⟨ga, off2, none⟩ := by split; exact ⟨_, rfl⟩; exact ⟨off + m, by simp [Addr.add]; omega⟩
            refine ⟨e1, ⟨⟨?_, ?_, hoff, ?_⟩, ?_, e2, _, e3, e4⟩, ?_⟩
            · simp only [List.append_assoc, List.cons_append, List.nil_append]
              exact H1.out
            · have := Hl.out.2
              simp only; omega
            · have := Hl.out.2
              simp only [List.length_append, List.length_cons, List.length_nil]; omega
            · obtain ⟨off2, hoff⟩ := hoff
              simp only at hdrop ⊢
              rw [hoff] at hdrop ⊢
              exact rdB_block hdrop (fun ad e => by cases e; exact e5 ga (by omega) (by omega))
            · refine Fixed.of_block (fun a ha => ?_)
              have hab : a.block ≠ gl ∧ a.block ≤ br := by
                simp only [cellsC, List.mem_cons, List.not_mem_nil, or_false] at ha
                rcases ha with rfl | rfl | rfl | rfl | rfl | rfl <;> (simp only; omega)
              exact e5 _ hab.2 hab.1
  case hdone =>
    rintro D ⟨B', c', R, p⟩ W hask ⟨⟨h1, h2, ⟨off, h3⟩, h4⟩, hrd, hb, v, hk, ho⟩ hend hD hdef
    dsimp only at h1 h2 h3 h4 hrd ho hend
    subst h3
    have hask' : (if (nextL le mo bi R 0 0).2 then some (some (⟨ga, off, none⟩ : Addr), (nextL le mo bi R 0 0).1) else none) = none := hask
    have hok2 : (nextL le mo bi R 0 0).2 = false := by
      cases hh : (nextL le mo bi R 0 0).2 with
      | false => rfl
      | true => rw [hh] at hask'; cases hask'
    rw [splitE_done le mo bi R hok2] at h1
    simp only [List.append_nil] at h1
    have H1 := Lib.hid h1
    have hsW := hb.size
    have bWw : Below w.heap.size w W := b0.trans (hb.to_below (by simp; omega) (by omega))
    obtain ⟨kc, kf⟩ := hk (⟨gl, 0, none⟩, v) (by simp)
    dsimp only at kc kf
    have HO := Lib.hid ho
    have hgW : g < W.heap.size := by omega
    have c3 := keepB0 bWw k3 hg
    have f3 : W.frozen? ⟨g, 3, none⟩ = false := (bWw.frozen (p := ⟨g, 3, none⟩) hg).trans k33
    have hglW : gl < W.heap.size := by omega
    have hrW : r < W.heap.size := by omega
    have hrW1 : r < W.heap.size + 1 := by omega
    clear hask hask' hok2 h1 ho
    gi_wp2_with (gi_at_builtin; refine wpListIn_append_bytes rfl (.tmp 35) (.tmp 36) rfl W.heap.size (.slice (some ⟨W.heap.size, 0, none⟩) 0 0) 0 [] rfl (own_empty W 5 1) (some ⟨ga, off, none⟩) c' R rfl (RdB.alloc' hrd _) (fun h => by cases h) h2 (by omega) (by simp) ?_; intro u w2 ownu growu nnu; have b2 : Below W.heap.size W w2 := ((Below.refl _ _).alloc (Nat.le_refl _) _).grown growu (by simp) (own_base' (own_empty W 5 1)); have nu := nnu (by simp); clear nnu growu; rw [Nat.zero_add, List.nil_append] at ownu; obtain ⟨gu, cu, hu, hgu⟩ := own_form ownu nu; rw [hu] at ownu ⊢; have kl2 : w2.cell? ⟨gl, 0, none⟩ = some v := (b2.cell (p := ⟨gl, 0, none⟩) hglW).trans kc; have c32 := (b2.cell (p := ⟨g, 3, none⟩) hgW).trans c3; have f32 := (b2.frozen (p := ⟨g, 3, none⟩) hgW).trans f3; have hggl : g ≠ gl := by omega)
    have hoth : KeepsOthers W (w2.setCell ⟨g, 3, none⟩ (.slice (some ⟨gu, 0, none⟩) R.length cu)) := (others_of_below b2).trans (KeepsOthers.setCell _ _ _)
    have hdef2 := hoth.same _ _ hdef rfl
    have hs2 := b2.size
    have hgb : w2.heap[g]? = w.heap[g]? := (b2.block g hgW).trans (bWw.block g hg)
    have hcell : ∀ {i : Nat} {x : Value}, w.cell? ⟨g, i, none⟩ = some x → w2.cell? ⟨g, i, none⟩ = some x := fun h => (World.cell?_of_block hgb).trans h
    have hfroz : ∀ {i : Nat}, w.frozen? ⟨g, i, none⟩ = false → w2.frozen? ⟨g, i, none⟩ = false := fun h => (World.frozen?_of_block hgb).trans h
    have hgD : g ≠ D := by omega
    refine ⟨by simp, .inl ⟨_, _, rfl, run_takeDeferred hdef2, ?_⟩⟩
    refine ⟨_, results_tmp2 rfl _ _ _, _, rfl, ?_, ?_, ?_⟩
    · rw [← H1.out]
      exact OwnP.mono (((HO.out.below b2).setCell (by simp only; omega) _).put (.deferred none) hdef2 rfl) (by omega)
    · rw [← H1.out]
      refine ⟨.slice (some ⟨gu, 0, none⟩) R.length cu, Keeps.put (?_) D (by simp; omega) _, ?_, ?_⟩
      · intro q hq
        simp only [List.mem_cons, List.not_mem_nil, or_false] at hq
        rcases hq with rfl | rfl | rfl | rfl
        · exact ⟨(World.cell?_setCell_other _ _ _ _ (by simp)).trans (hcell k0), (World.frozen?_setCell _ _ _ _).trans (hfroz k00)⟩
        · exact ⟨(World.cell?_setCell_other _ _ _ _ (by simp)).trans (hcell k1), (World.frozen?_setCell _ _ _ _).trans (hfroz k11)⟩
        · exact ⟨(World.cell?_setCell_other _ _ _ _ (by simp)).trans (hcell k2), (World.frozen?_setCell _ _ _ _).trans (hfroz k22)⟩
        · exact ⟨World.cell?_setCell_same _ _ _ c32, (World.frozen?_setCell _ _ _ _).trans f32⟩
      · exact ownsRow_putObj (own_setCell (a := ⟨g, 3, none⟩) (own_mono ownu (by omega)) (fun q hq => by have := own_base' ownu q hq; simp only; omega) _) (.deferred none) hdef2 rfl
      · obtain ⟨ct, cz, hc⟩ := HCT.out
        obtain ⟨ct2, cz2, hc2⟩ := kind_setCell ⟨ct, cz, hgb.trans hc⟩ ⟨g, 3, none⟩ (.slice (some ⟨gu, 0, none⟩) R.length cu)
        exact ⟨ct2, cz2, (World.putObj_heap_other hgD).trans hc2⟩
    · have bb2 : Besides [g] w w2 := Besides.of_below (bWw.trans (b2.mono (by omega)))
      exact Besides.put (bb2.setCell _ (by simp) _) (by omega) _
  case hstop =>
    rintro D c s W h
    exact h.elim
end Go.Proofs.Ytpdigpfjmpaooaa
