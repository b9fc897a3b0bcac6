import Derived.Test.YtebmnfffmpiceaaE
import Derived.Deep.LoopGhost
import Derived.OneCell
import Derived.Lib.SmallJoins
/-! The finder goes up. -/
namespace Go.Proofs.Ytebmnfffmpiceaa
open Go.RowKit
set_option linter.unusedVariables false
set_option linter.unusedSimpArgs false
/-- What a finder turns: its own two blocks, and rows of places from B on. -/
def Mv (B g m : Nat) (w w' : World) : Prop :=
  (w'.os = w.os ∧ w'.tape = w.tape ∧ w'.output = w.output) ∧ w.heap.size ≤ w'.heap.size ∧ ∀ k, k < w.heap.size → (k < B ∨ (k ≠ g ∧ k ≠ m ∧ ∀ cur fz, w.heap[k]? ≠ some (.cells cur 3 fz))) → w'.heap[k]? = w.heap[k]?
theorem Mv.refl (B g m : Nat) (w : World) : Mv B g m w w := ⟨⟨rfl, rfl, rfl⟩, Nat.le_refl _, fun _ _ _ => rfl⟩
theorem Mv.trans {B g m : Nat} {a b c : World} (h : Mv B g m a b) (h' : Mv B g m b c) : Mv B g m a c := by
  obtain ⟨⟨o1, o2, o3⟩, s, k1⟩ := h
  obtain ⟨⟨p1, p2, p3⟩, t, k2⟩ := h'
  refine ⟨⟨p1.trans o1, p2.trans o2, p3.trans o3⟩, Nat.le_trans s t, fun k hk hc => ?_⟩
  have e := k1 k hk hc
  rw [← e]
  refine k2 k (by omega) ?_
  rcases hc with hc | ⟨h1, h2, h3⟩
  · exact Or.inl hc
  · exact Or.inr ⟨h1, h2, fun cur fz => by rw [e]; exact h3 cur fz⟩
theorem Mv.alloc {B g m : Nat} {a w : World} (h : Mv B g m a w) (o : Obj) : Mv B g m a (w.alloc o) :=
  h.trans ⟨⟨rfl, rfl, rfl⟩, by simp, fun k hk _ => Below.heap_alloc _ _ _ hk⟩
theorem Mv.drewN {B g m : Nat} {a w : World} (h : Mv B g m a w) (n : Nat) : Mv B g m a (w.drewN n) := h.trans ⟨⟨rfl, rfl, rfl⟩, Nat.le_refl _, fun _ _ _ => rfl⟩
theorem Mv.drew {B g m : Nat} {a w : World} (h : Mv B g m a w) : Mv B g m a w.drew := h.trans ⟨⟨rfl, rfl, rfl⟩, Nat.le_refl _, fun _ _ _ => rfl⟩
theorem Mv.setCell {B g m : Nat} {a w : World} (h : Mv B g m a w) (hB : B ≤ g) (i : Nat) (u : Value) : Mv B g m a (w.setCell ⟨g, i, none⟩ u) :=
  h.trans ⟨⟨rfl, rfl, rfl⟩, by simp [World.setCell], fun k hk hc => Below.heap_setCell _ _ _ _ (by simp only; omega)⟩
theorem Mv.grown {B g m : Nat} {a w w' : World} {v : Value} {n : Nat} {xs : List Value} (h : Mv B g m a w) (hown : w.ownsRow B 3 1 v n xs) (hg : w.grownBy w' v.ownBlock) : Mv B g m a w' := by
  refine h.trans ⟨⟨hg.os, hg.tape, hg.output⟩, hg.size, fun k hk hc => hg.block k hk fun e => ?_⟩
  rcases hown.2 with ⟨rfl, _⟩ | ⟨g', cap, cur, rfl, hb, hh, _⟩
  · simp [Value.ownBlock] at e
  · have : g' = k := by simpa [Value.ownBlock] using e.symm
    subst this
    rcases hc with hc | ⟨_, _, hc⟩
    · omega
    · exact hc _ _ hh
theorem Mv.mapped {B g m : Nat} {a w w' : World} (h : Mv B g m a w) (hB : B ≤ m) (hg : w.grownBy w' (some m)) : Mv B g m a w' :=
  h.trans ⟨⟨hg.os, hg.tape, hg.output⟩, hg.size, fun k hk hc => hg.block k hk fun e => by
    have : k = m := Option.some.inj e
    omega⟩
theorem Mv.below {B g m : Nat} {a w : World} (h : Mv B g m a w) (hB : B ≤ a.heap.size) : Below B a w := ⟨h.1.1, h.1.2.1, h.1.2.2, h.2.1, fun k hk => h.2.2 k (by omega) (Or.inl hk)⟩
theorem drewN_map {w : World} {k : TypeId} {R : Value → Option (Dm × List MemPlace)} {m q : Nat} {D : Dm} (h : w.ownsMap Try.prog k R m q D) (n : Nat) : (w.drewN n).ownsMap Try.prog k R m q D := h
theorem RdB_under {w w' : World} {ad : Addr} {b : By} {B : Nat} (h : RdB w (some ad) b) (hb : Below B w w') (hB : ad.block < B) : RdB w' (some ad) b :=
  ⟨h.1, fun j hj => by
    obtain ⟨ad', v, e, hc, hr⟩ := h.2 j hj
    cases e
    exact ⟨ad, v, rfl, (hb.cell (by rw [ChangeShapes.block_add]; exact hB)).trans hc, hr⟩⟩
theorem heap_setCell {w : World} {b : Nat} {cs : Array Value} {t : TypeId} {fr : Nat × Nat} (h : w.heap[b]? = some (.cells cs t fr)) (i : Nat) (u : Value) : (w.setCell ⟨b, i, none⟩ u).heap[b]? = some (.cells (cs.setIfInBounds i u) t fr) := by
  simp [World.setCell, Array.getElem?_modify, h]
theorem own_not {w : World} {B e g size n : Nat} {v : Value} {xs : List Value} {cs : Array Value} {t : TypeId} {fr : Nat × Nat} (h : w.ownsRow B e size v n xs) (hg : w.heap[g]? = some (.cells cs t fr)) (ht : t ≠ e) : v.ownBlock ≠ some g := by
  rcases h.2 with ⟨rfl, _⟩ | ⟨g', cap, cur, rfl, hb, hh, _⟩
  · simp [Value.ownBlock]
  · intro e'
    have : g' = g := by simpa [Value.ownBlock] using e'
    subst this
    rw [hh] at hg
    simp only [Option.some.injEq, Obj.cells.injEq] at hg
    exact ht hg.2.1.symm
theorem own_notmap {w : World} {B e m size n : Nat} {v : Value} {xs : List Value} {k : TypeId} {R : Value → Option (Dm × List MemPlace)} {q : Nat} {D : Dm} (h : w.ownsRow B e size v n xs) (hm : w.ownsMap Try.prog k R m q D) : v.ownBlock ≠ some m := by
  obtain ⟨es, clock, hh, _⟩ := hm
  rcases h.2 with ⟨rfl, _⟩ | ⟨g', cap, cur, rfl, hb, hh', _⟩
  · simp [Value.ownBlock]
  · intro e'
    have : g' = m := by simpa [Value.ownBlock] using e'
    subst this
    rw [hh] at hh'
    cases hh'
theorem map_ne {w : World} {g m : Nat} {cs : Array Value} {t : TypeId} {fr : Nat × Nat} {k : TypeId} {R : Value → Option (Dm × List MemPlace)} {q : Nat} {D : Dm} (hg : w.heap[g]? = some (.cells cs t fr)) (hm : w.ownsMap Try.prog k R m q D) : g ≠ m := by
  rintro rfl
  obtain ⟨es, clock, hh, _⟩ := hm
  rw [hh] at hg; cases hg
theorem grown_heap {w w' : World} {row : Option Nat} {g : Nat} {o : Obj} (hg : w.grownBy w' row) (h : w.heap[g]? = some o) (hne : row ≠ some g) : w'.heap[g]? = some o :=
  (hg.block g (Array.getElem?_eq_some_iff.1 h).1 (fun e => hne e.symm)).trans h
theorem info3 : (Try.prog.info? 3).map (fun i => (i.zero, i.size, i.bytes)) = some (some (.int .i64 0), 1, 8) := by kernel_rfl
theorem cell_one_at (w : World) (x : Value) (t : TypeId) (a : Nat) (ha : a = w.heap.size) : ∀ j u, [x][j]? = some u → (w.alloc (.cells #[x] t)).cell? ((⟨a, 0, none⟩ : Addr).add j) = some u := by subst ha; exact cell_one_new w x t
theorem oneI (x : Int) : ∀ u ∈ [Value.int .i64 x], u.oneCell' = true := by intro u hu; simp at hu; subst hu; rfl
theorem fr_of {w : World} {b : Nat} {cs : Array Value} {t : TypeId} (h : w.heap[b]? = some (.cells cs t (0, 0))) (i : Nat) : w.frozen? ⟨b, i, none⟩ = false := by simp [World.frozen?, h]

theorem fd_set3 {w : World} {g m B n q : Nat} {b : By} {A : Option Addr} {cap : Nat} {u : Value} {D : Dm} (hg : w.heap[g]? = some (.cells #[.slice A b.length cap, .map (some m), u, .int .i64 n] 55 (0, 0))) (hown : w.ownsRow B 3 1 u (n + 1) (intsV (aheadL b (n + 1)))) (hmap : w.ownsMap Try.prog 58 (plainElem Try.prog 3) m q D) (hq : q ≤ n + 1) (hok : MapOk D b (n + 1)) (hBg : B ≤ g) (hBm : B ≤ m) :
    Fd (w.setCell ⟨g, 3, none⟩ (.int .i64 ((n : Int) + 1))) g m B b A cap (n + 1) u D := by
  have hne := own_not hown hg (by decide)
  have hgm := map_ne hg hmap
  refine ⟨by rw [heap_setCell hg]; rfl, ownsRow_setCell_other hown hne _, (hmap.setCell (Ne.symm hgm) _).mono hq, hok, hBg, hBm⟩
theorem fd_set2 {w : World} {g m n : Nat} {b : By} {A : Option Addr} {cap : Nat} {v : Value} (hg : w.heap[g]? = some (.cells #[.slice A b.length cap, .map (some m), v, .int .i64 n] 55 (0, 0))) (u : Value) :
    (w.setCell ⟨g, 2, none⟩ u).heap[g]? = some (.cells #[.slice A b.length cap, .map (some m), u, .int .i64 n] 55 (0, 0)) := by rw [heap_setCell hg]; rfl
theorem add_succ (a : Addr) (j : Nat) : a.add (j + 1) = ⟨a.block, a.off + (j + 1), none⟩ := by simp [Addr.add]
theorem RdB.next {w : World} {ad : Addr} {b : By} (h : RdB w (some ad) b) (n j : Nat) (hn : n + (j + 1) < b.length) : w.cell? ⟨(ad.add n).block, (ad.add n).off + (j + 1), none⟩ = some (.int .u8 b[n + (j + 1)].toNat) := by
  obtain ⟨ad', e, hc⟩ := RdB.at' h (n + (j + 1)) hn
  cases e
  rw [← add_succ, add_add']
  exact hc
theorem four_cells {w : World} {ad : Addr} {b : By} (h : RdB w (some ad) b) (n : Nat) (hn : n + 4 ≤ b.length) : ∃ x0 x1 x2 x3 : BitVec 8, keyAt b n = [x0, x1, x2, x3] ∧
    w.cell? (ad.add n) = some (.int .u8 x0.toNat) ∧ w.cell? ⟨(ad.add n).block, (ad.add n).off + 1, none⟩ = some (.int .u8 x1.toNat) ∧ w.cell? ⟨(ad.add n).block, (ad.add n).off + 2, none⟩ = some (.int .u8 x2.toNat) ∧ w.cell? ⟨(ad.add n).block, (ad.add n).off + 3, none⟩ = some (.int .u8 x3.toNat) := by
  have hk : keyAt b n = [b[n], b[n + 1], b[n + 2], b[n + 3]] := by
    unfold keyAt
    apply List.ext_getElem
    · rw [List.length_take, List.length_drop]; simp; omega
    · intro i h1 h2
      rw [List.getElem_take, List.getElem_drop]
      match i, h2 with
      | 0, _ => rfl
      | 1, _ => rfl
      | 2, _ => rfl
      | 3, _ => rfl
  refine ⟨_, _, _, _, hk, ?_, RdB.next h n 0 (by omega), RdB.next h n 1 (by omega), RdB.next h n 2 (by omega)⟩
  obtain ⟨ad', e, hc⟩ := RdB.at' h n (by omega)
  cases e; exact hc
/-- What the map tells, in whatever order. -/
theorem look_yes {w : World} {m q : Nat} {D : Dm} {b : By} {n : Nat} {x0 x1 x2 x3 : BitVec 8} (h : w.ownsMap Try.prog 58 (plainElem Try.prog 3) m q D) (hok : MapOk D b n) (hp : 0 ≤ lastOcc b [x0, x1, x2, x3] n) :
    (Instr.lookup 52 (.map (some m)) (fourV x0 x1 x2 x3) true).run Try.prog w = .ok (.tuple #[.int .i64 (lastOcc b [x0, x1, x2, x3] n), .bool true]) w := by
  obtain ⟨v, ps, hrun, hv⟩ := h.look_ok lawK Try.underlying52 (zero3 w) (plainElem_int Try.underlying3 (by decide)) (keyOf_four x0 x1 x2 x3)
  obtain ⟨h1, h2⟩ := hok x0 x1 x2 x3
  rw [h2 hp] at hv
  obtain ⟨c, rfl, hc, _⟩ := plainElem_int_inv Try.underlying3 hv
  simp only [Prod.mk.injEq, DataW.lit.injEq, Lit.int.injEq, true_and] at hc
  rw [hrun, h1, ← hc.1]
  simp [hp]
theorem look_no {w : World} {m q : Nat} {D : Dm} {b : By} {n : Nat} {x0 x1 x2 x3 : BitVec 8} (h : w.ownsMap Try.prog 58 (plainElem Try.prog 3) m q D) (hok : MapOk D b n) (hp : lastOcc b [x0, x1, x2, x3] n < 0) :
    (Instr.lookup 52 (.map (some m)) (fourV x0 x1 x2 x3) true).run Try.prog w = .ok (.tuple #[.int .i64 0, .bool false]) w := by
  obtain ⟨v, ps, hrun, hv⟩ := h.look_ok lawK Try.underlying52 (zero3 w) (plainElem_int Try.underlying3 (by decide)) (keyOf_four x0 x1 x2 x3)
  obtain ⟨h1, h2⟩ := hok x0 x1 x2 x3
  have h3 : Maps.has D (keyLit x0 x1 x2 x3) = false := by rw [h1]; simp; omega
  rw [Maps.atKey_of_not_has h3] at hv
  obtain ⟨c, rfl, hc, _⟩ := plainElem_int_inv Try.underlying3 hv
  simp only [Prod.mk.injEq, DataW.lit.injEq, Lit.int.injEq, true_and] at hc
  rw [hrun, h3, ← hc.1]

set_option maxRecDepth 100000 in
set_option maxHeartbeats 4000000 in
theorem up_any (b : By) (A : Option Addr) (cap g m B n to : Nat) (v : Value) (D : Dm) (w : World) (hr : RdB w A b) (hl : b.length ≤ cap) (hs : b.length ≤ 65536) (hB : B ≤ w.heap.size) (hA : ∀ ad, A = some ad → ad.block < B) (hfd : Fd w g m B b A cap n v D) (hto : to ≤ b.length) (hn : n ≤ to) :
    Calls Try.prog 27 #[.pointer (some ⟨g, 0, none⟩), .int .i64 to] w fun e w' => e = .returned (.tuple #[]) ∧ (∃ v' D', Fd w' g m B b A cap to v' D') ∧ Mv B g m w w' := by
  obtain ⟨i0, hi, hz0, hz1, hz2⟩ := info_parts info3
  have Hr := Lib.hid hr
  have Hfd := Lib.hid hfd
  have HA := Lib.hid hA
  have hm := hr.1
  clear hr hfd hA
  go_enter Try.func27, Try.ntmps27
  go_wp2
  go_loopg [] (to - n) (fun k wr => ∃ (n : Nat) (v : Value) (D : Dm), n ≤ to ∧ k = to - n ∧ Fd wr g m B b A cap n v D ∧ Mv B g m w wr)
  case atStart => exact ⟨n, v, D, hn, rfl, Hfd.out, Mv.refl _ _ _ _⟩
  case round =>
    obtain ⟨n, v, D, hnt, rfl, hfd, hmv⟩ := hrel
    obtain ⟨hg, hown, hmap, hok, hBg, hBm⟩ := hfd
    have hsw := hmv.2.1
    have g0 : wr.cell? ⟨g, 0, none⟩ = some (.slice A b.length cap) := by rw [Joins.cell_of_block hg]; rfl
    have g1 : wr.cell? ⟨g, 1, none⟩ = some (.map (some m)) := by rw [Joins.cell_of_block hg]; rfl
    have g2 : wr.cell? ⟨g, 2, none⟩ = some v := by rw [Joins.cell_of_block hg]; rfl
    have g3 : wr.cell? ⟨g, 3, none⟩ = some (.int .i64 n) := by rw [Joins.cell_of_block hg]; rfl
    have hlt := World.block_lt_of_cell? wr _ g0
    by_cases hlt2 : n < to
    · by_cases h4 : n + 4 ≤ b.length
      · obtain ⟨ad, hAd, _⟩ := RdB.at' Hr.out n (by omega)
        subst hAd
        have hrd : RdB wr (some ad) b := RdB_under Hr.out (hmv.below hB) (HA.out ad rfl)
        obtain ⟨x0, x1, x2, x3, hkey, q0, q1, q2, q3⟩ := four_cells hrd n h4
        have C1 := Lib.hid (fun wX h e0 e1 e2 e3 => at_yes b ad cap g n wX h hs hl h4 x0 x1 x2 x3 e0 e1 e2 e3)
        have HK := Lib.hid hok
        have HKey := Lib.hid hkey
        have HG := Lib.hid hg
        have HO := Lib.hid hown
        have HM := Lib.hid hmap
        obtain ⟨P, hP⟩ : ∃ P, lastOcc b [x0, x1, x2, x3] n = P := ⟨_, rfl⟩
        have Y := fun (w : World) (h : w.ownsMap Try.prog 58 (plainElem Try.prog 3) m n D) hp => look_yes h hok (n := n) (x0 := x0) (x1 := x1) (x2 := x2) (x3 := x3) hp
        have N := fun (w : World) (h : w.ownsMap Try.prog 58 (plainElem Try.prog 3) m n D) hp => look_no h hok (n := n) (x0 := x0) (x1 := x1) (x2 := x2) (x3 := x3) hp
        rw [hP] at Y N
        have HP := Lib.hid hP
        clear hP
        by_cases hp : 0 ≤ P
        · have hlk := fun nq => Y ((((wr.alloc (fourO x0 x1 x2 x3)).alloc (fourO x0 x1 x2 x3))).drewN nq) (drewN_map ((HM.out.alloc _).alloc _) nq) hp
          clear Y N hg hown hmap hok hkey
          go_wp2_with (first | (go_at_call 28; refine (C1.out _ (by assumption) (by assumption) (by assumption) (by assumption) (by assumption)).mono ?_; rintro e w' ⟨rfl, rfl⟩) | fail)
          go_quiet (fail)
          have hW : ∃ W, (((wr.alloc (fourO x0 x1 x2 x3)).alloc (fourO x0 x1 x2 x3)).drewN nq) = W := ⟨_, rfl⟩
          obtain ⟨W1, hW1⟩ := hW
          have HG1 : Hid (W1.heap[g]? = some (.cells #[.slice (some ad) b.length cap, .map (some m), v, .int .i64 n] 55 (0, 0))) := by subst hW1; exact heap_old _ trivial (heap_old _ trivial HG.out)
          have HO1 : Hid (W1.ownsRow B 3 1 v n (intsV (aheadL b n))) := by subst hW1; exact (HO.out.alloc _).alloc _
          have HM1 : Hid (W1.ownsMap Try.prog 58 (plainElem Try.prog 3) m n D) := by subst hW1; exact drewN_map ((HM.out.alloc _).alloc _) nq
          have h41 : W1.heap[wr.heap.size + 1]? = some (fourO x0 x1 x2 x3) := by subst hW1; exact heap_new _ _ _ (by simp)
          have hmv1 : Mv B g m w W1 := by subst hW1; exact ((hmv.alloc _).alloc _).drewN _
          have hs1 : wr.heap.size + 2 ≤ W1.heap.size := by subst hW1; simp
          have e2 : W1.cell? ⟨g, 2, none⟩ = some v := by rw [Joins.cell_of_block HG1.out]; rfl
          rw [show (((wr.alloc (fourO x0 x1 x2 x3)).alloc (Obj.cells #[Value.int IntKind.u8 x0.toNat, Value.int IntKind.u8 x1.toNat, Value.int IntKind.u8 x2.toNat, Value.int IntKind.u8 x3.toNat] 58)).drewN nq) = W1 from hW1]
          clear hW1 hlk g0 g1 g2 g3 q0 q1 q2 q3 hrd
          go_wp2_with (first | (at_builtin; go_loud (refine wpList_append_own _ rfl (.tmp 56) (.tmp 58) 53 rfl B 3 i0 (.int .i64 0) 1 8 Try.underlying53 hi hz0 hz1 hz2 rfl (by decide) _ n _ rfl (HO1.out.alloc _) ⟨W1.heap.size, 0, none⟩ 1 1 [.int .i64 P] rfl rfl (cell_one_at _ _ _ _ (by simp)) (oneI _) (by unfold maxLen; omega) (by omega) (by simp; omega) ?_; intro v' w2 hown' hgrow _; obtain ⟨gv, cv, hv4⟩ := Joins.ownsRow_form hown' (by omega); subst hv4; replace hgrow : World.grownBy _ w2 v.ownBlock := hgrow; have hne := own_not HO1.out HG1.out (by decide); have hnm := own_notmap HO1.out HM1.out; have hn4 := own_not HO1.out h41 (by decide); have hg2 := grown_heap hgrow (heap_old _ trivial HG1.out) hne; have hm2 := (HM1.out.alloc _).kept hgrow (Ne.symm hnm); have h42 := grown_heap hgrow (heap_old _ trivial h41) hn4; have hmv2 := (hmv1.alloc _).grown (HO1.out.alloc _) hgrow; have k1 : w2.cell? ⟨g, 1, none⟩ = some (.map (some m)) := (by rw [Joins.cell_of_block hg2]; rfl); have k2 : w2.cell? ⟨g, 2, none⟩ = some v := (by rw [Joins.cell_of_block hg2]; rfl); have k3 : w2.cell? ⟨g, 3, none⟩ = some (.int .i64 n) := (by rw [Joins.cell_of_block hg2]; rfl); have f2 := fr_of hg2 2; have f3 := fr_of hg2 3; have z0 : w2.cell? ⟨wr.heap.size + 1, 0, none⟩ = some (.int .u8 x0.toNat) := (by rw [Joins.cell_of_block h42]; rfl); have z1 : w2.cell? ⟨wr.heap.size + 1, 1, none⟩ = some (.int .u8 x1.toNat) := (by rw [Joins.cell_of_block h42]; rfl); have z2 : w2.cell? ⟨wr.heap.size + 1, 2, none⟩ = some (.int .u8 x2.toNat) := (by rw [Joins.cell_of_block h42]; rfl); have z3 : w2.cell? ⟨wr.heap.size + 1, 3, none⟩ = some (.int .u8 x3.toNat) := (by rw [Joins.cell_of_block h42]; rfl); clear hgrow; have HG2 := Lib.hid hg2; have HM2 := Lib.hid hm2; have HO2 := Lib.hid hown'; clear hg2 hm2 hown' hne hnm hn4 h42)) | fail)
          obtain ⟨W3, hW3⟩ : ∃ W, w2.setCell ⟨g, 2, none⟩ (.slice (some ⟨gv, 0, none⟩) (n + 1) cv) = W := ⟨_, rfl⟩
          have HG3 : Hid (W3.heap[g]? = some (.cells #[.slice (some ad) b.length cap, .map (some m), .slice (some ⟨gv, 0, none⟩) (n + 1) cv, .int .i64 n] 55 (0, 0))) := by subst hW3; exact fd_set2 HG2.out _
          have HO3 : Hid (W3.ownsRow B 3 1 (.slice (some ⟨gv, 0, none⟩) (n + 1) cv) (n + 1) (intsV (aheadL b n) ++ [.int .i64 P])) := by subst hW3; exact ownsRow_setCell_other HO2.out (own_not HO2.out HG2.out (by decide)) _
          have HM3 : Hid (W3.ownsMap Try.prog 58 (plainElem Try.prog 3) m n D) := by subst hW3; exact HM2.out.setCell (Ne.symm (map_ne HG2.out HM2.out)) _
          have hmv3 : Mv B g m w W3 := by subst hW3; exact hmv2.setCell hBg _ _
          have HG3d : Hid (W3.drew.heap[g]? = some (.cells #[.slice (some ad) b.length cap, .map (some m), .slice (some ⟨gv, 0, none⟩) (n + 1) cv, .int .i64 n] 55 (0, 0))) := HG3
          have hgm := map_ne HG3.out HM3.out
          have y0 : W3.cell? ⟨wr.heap.size + 1, 0, none⟩ = some (.int .u8 x0.toNat) := by subst hW3; exact (World.cell?_setCell_other _ _ _ _ (by simp)).trans z0
          have y1 : W3.cell? ⟨wr.heap.size + 1, 1, none⟩ = some (.int .u8 x1.toNat) := by subst hW3; exact (World.cell?_setCell_other _ _ _ _ (by simp)).trans z1
          have y2 : W3.cell? ⟨wr.heap.size + 1, 2, none⟩ = some (.int .u8 x2.toNat) := by subst hW3; exact (World.cell?_setCell_other _ _ _ _ (by simp)).trans z2
          have y3 : W3.cell? ⟨wr.heap.size + 1, 3, none⟩ = some (.int .u8 x3.toNat) := by subst hW3; exact (World.cell?_setCell_other _ _ _ _ (by simp)).trans z3
          have u1 : W3.cell? ⟨g, 1, none⟩ = some (.map (some m)) := by rw [Joins.cell_of_block HG3.out]; rfl
          have u3 : W3.cell? ⟨g, 3, none⟩ = some (.int .i64 n) := by rw [Joins.cell_of_block HG3.out]; rfl
          rw [hW3]
          clear hW3 k1 k2 k3 f2 f3 z0 z1 z2 z3 e2 hmv2 HG2 HM2 HO2 hmv1 HG1 HM1 HO1 h41
          go_still_tail 9, (by kernel_rfl)
          change wpList _ _ _ _ _ W3.drew
          go_wp2_with (first | (at_mapUpdate; go_loud (refine wpList_mapUpdate_own _ rfl (.tmp 65) (.tmp 66) (.tmp 70) 52 rfl 58 3 lawK Try.underlying52 (plainElem Try.prog 3) m n D rfl HM3.out.drew (by unfold maxLen; omega) (fourV x0 x1 x2 x3) (.int .i64 n) (keyLit x0 x1 x2 x3) rfl rfl (keyOf_four x0 x1 x2 x3) (.lit (.int .i64 n)) [] (plainElem_int Try.underlying3 (WalkArith.wf_i64 (by omega))) ?_; intro w4 hown4 hgrow4; have hg4 := grown_heap hgrow4 HG3d.out (fun e => hgm (Option.some.inj e).symm); have ho4 := HO3.out.drew.kept hgrow4 (Or.inr (own_notmap HO3.out HM3.out)); have hmv4 := hmv3.drew.mapped hBm hgrow4; have y3 : w4.cell? ⟨g, 3, none⟩ = some (.int .i64 n) := (by rw [Joins.cell_of_block hg4]; rfl); have fy3 := fr_of hg4 3; clear hgrow4; have HG4 := Lib.hid hg4; have HM4 := Lib.hid hown4; have HO4 := Lib.hid ho4; clear hg4 hown4 ho4)) | fail)
          go_roundg (to - (n + 1))
          case measure => omega
          case rel =>
            have e : aheadI b n = P := by unfold aheadI; rw [if_pos h4, HKey.out]; exact HP.out
            have ho := HO4.out
            rw [← e, intsV_snoc, ← aheadL_snoc] at ho
            exact ⟨n + 1, _, _, hlt2, rfl, fd_set3 HG4.out ho HM4.out (Nat.le_refl _) (HK.out.put HM3.out.isMap h4 HKey.out) hBg hBm, hmv4.setCell hBg _ _⟩
        · have hlk := fun nq => N ((((wr.alloc (fourO x0 x1 x2 x3)).alloc (fourO x0 x1 x2 x3))).drewN nq) (drewN_map ((HM.out.alloc _).alloc _) nq) (by omega)
          clear Y N hg hown hmap hok hkey
          go_wp2_with (first | (go_at_call 28; refine (C1.out _ (by assumption) (by assumption) (by assumption) (by assumption) (by assumption)).mono ?_; rintro e w' ⟨rfl, rfl⟩) | fail)
          go_quiet (fail)
          have hW : ∃ W, (((wr.alloc (fourO x0 x1 x2 x3)).alloc (fourO x0 x1 x2 x3)).drewN nq) = W := ⟨_, rfl⟩
          obtain ⟨W1, hW1⟩ := hW
          have HG1 : Hid (W1.heap[g]? = some (.cells #[.slice (some ad) b.length cap, .map (some m), v, .int .i64 n] 55 (0, 0))) := by subst hW1; exact heap_old _ trivial (heap_old _ trivial HG.out)
          have HO1 : Hid (W1.ownsRow B 3 1 v n (intsV (aheadL b n))) := by subst hW1; exact (HO.out.alloc _).alloc _
          have HM1 : Hid (W1.ownsMap Try.prog 58 (plainElem Try.prog 3) m n D) := by subst hW1; exact drewN_map ((HM.out.alloc _).alloc _) nq
          have h41 : W1.heap[wr.heap.size + 1]? = some (fourO x0 x1 x2 x3) := by subst hW1; exact heap_new _ _ _ (by simp)
          have hmv1 : Mv B g m w W1 := by subst hW1; exact ((hmv.alloc _).alloc _).drewN _
          have hs1 : wr.heap.size + 2 ≤ W1.heap.size := by subst hW1; simp
          have e2 : W1.cell? ⟨g, 2, none⟩ = some v := by rw [Joins.cell_of_block HG1.out]; rfl
          rw [show (((wr.alloc (fourO x0 x1 x2 x3)).alloc (Obj.cells #[Value.int IntKind.u8 x0.toNat, Value.int IntKind.u8 x1.toNat, Value.int IntKind.u8 x2.toNat, Value.int IntKind.u8 x3.toNat] 58)).drewN nq) = W1 from hW1]
          clear hW1 hlk g0 g1 g2 g3 q0 q1 q2 q3 hrd
          go_wp2_with (first | (at_builtin; go_loud (refine wpList_append_own _ rfl (.tmp 56) (.tmp 58) 53 rfl B 3 i0 (.int .i64 0) 1 8 Try.underlying53 hi hz0 hz1 hz2 rfl (by decide) _ n _ rfl (HO1.out.alloc _) ⟨W1.heap.size, 0, none⟩ 1 1 [.int .i64 (-1)] rfl rfl (cell_one_at _ _ _ _ (by simp)) (oneI _) (by unfold maxLen; omega) (by omega) (by simp; omega) ?_; intro v' w2 hown' hgrow _; obtain ⟨gv, cv, hv4⟩ := Joins.ownsRow_form hown' (by omega); subst hv4; replace hgrow : World.grownBy _ w2 v.ownBlock := hgrow; have hne := own_not HO1.out HG1.out (by decide); have hnm := own_notmap HO1.out HM1.out; have hn4 := own_not HO1.out h41 (by decide); have hg2 := grown_heap hgrow (heap_old _ trivial HG1.out) hne; have hm2 := (HM1.out.alloc _).kept hgrow (Ne.symm hnm); have h42 := grown_heap hgrow (heap_old _ trivial h41) hn4; have hmv2 := (hmv1.alloc _).grown (HO1.out.alloc _) hgrow; have k1 : w2.cell? ⟨g, 1, none⟩ = some (.map (some m)) := (by rw [Joins.cell_of_block hg2]; rfl); have k2 : w2.cell? ⟨g, 2, none⟩ = some v := (by rw [Joins.cell_of_block hg2]; rfl); have k3 : w2.cell? ⟨g, 3, none⟩ = some (.int .i64 n) := (by rw [Joins.cell_of_block hg2]; rfl); have f2 := fr_of hg2 2; have f3 := fr_of hg2 3; have z0 : w2.cell? ⟨wr.heap.size + 1, 0, none⟩ = some (.int .u8 x0.toNat) := (by rw [Joins.cell_of_block h42]; rfl); have z1 : w2.cell? ⟨wr.heap.size + 1, 1, none⟩ = some (.int .u8 x1.toNat) := (by rw [Joins.cell_of_block h42]; rfl); have z2 : w2.cell? ⟨wr.heap.size + 1, 2, none⟩ = some (.int .u8 x2.toNat) := (by rw [Joins.cell_of_block h42]; rfl); have z3 : w2.cell? ⟨wr.heap.size + 1, 3, none⟩ = some (.int .u8 x3.toNat) := (by rw [Joins.cell_of_block h42]; rfl); clear hgrow; have HG2 := Lib.hid hg2; have HM2 := Lib.hid hm2; have HO2 := Lib.hid hown'; clear hg2 hm2 hown' hne hnm hn4 h42)) | fail)
          obtain ⟨W3, hW3⟩ : ∃ W, w2.setCell ⟨g, 2, none⟩ (.slice (some ⟨gv, 0, none⟩) (n + 1) cv) = W := ⟨_, rfl⟩
          have HG3 : Hid (W3.heap[g]? = some (.cells #[.slice (some ad) b.length cap, .map (some m), .slice (some ⟨gv, 0, none⟩) (n + 1) cv, .int .i64 n] 55 (0, 0))) := by subst hW3; exact fd_set2 HG2.out _
          have HO3 : Hid (W3.ownsRow B 3 1 (.slice (some ⟨gv, 0, none⟩) (n + 1) cv) (n + 1) (intsV (aheadL b n) ++ [.int .i64 (-1)])) := by subst hW3; exact ownsRow_setCell_other HO2.out (own_not HO2.out HG2.out (by decide)) _
          have HM3 : Hid (W3.ownsMap Try.prog 58 (plainElem Try.prog 3) m n D) := by subst hW3; exact HM2.out.setCell (Ne.symm (map_ne HG2.out HM2.out)) _
          have hmv3 : Mv B g m w W3 := by subst hW3; exact hmv2.setCell hBg _ _
          have HG3d : Hid (W3.drew.heap[g]? = some (.cells #[.slice (some ad) b.length cap, .map (some m), .slice (some ⟨gv, 0, none⟩) (n + 1) cv, .int .i64 n] 55 (0, 0))) := HG3
          have hgm := map_ne HG3.out HM3.out
          have y0 : W3.cell? ⟨wr.heap.size + 1, 0, none⟩ = some (.int .u8 x0.toNat) := by subst hW3; exact (World.cell?_setCell_other _ _ _ _ (by simp)).trans z0
          have y1 : W3.cell? ⟨wr.heap.size + 1, 1, none⟩ = some (.int .u8 x1.toNat) := by subst hW3; exact (World.cell?_setCell_other _ _ _ _ (by simp)).trans z1
          have y2 : W3.cell? ⟨wr.heap.size + 1, 2, none⟩ = some (.int .u8 x2.toNat) := by subst hW3; exact (World.cell?_setCell_other _ _ _ _ (by simp)).trans z2
          have y3 : W3.cell? ⟨wr.heap.size + 1, 3, none⟩ = some (.int .u8 x3.toNat) := by subst hW3; exact (World.cell?_setCell_other _ _ _ _ (by simp)).trans z3
          have u1 : W3.cell? ⟨g, 1, none⟩ = some (.map (some m)) := by rw [Joins.cell_of_block HG3.out]; rfl
          have u3 : W3.cell? ⟨g, 3, none⟩ = some (.int .i64 n) := by rw [Joins.cell_of_block HG3.out]; rfl
          rw [hW3]
          clear hW3 k1 k2 k3 f2 f3 z0 z1 z2 z3 e2 hmv2 HG2 HM2 HO2 hmv1 HG1 HM1 HO1 h41
          go_still_tail 9, (by kernel_rfl)
          change wpList _ _ _ _ _ W3.drew
          go_wp2_with (first | (at_mapUpdate; go_loud (refine wpList_mapUpdate_own _ rfl (.tmp 65) (.tmp 66) (.tmp 70) 52 rfl 58 3 lawK Try.underlying52 (plainElem Try.prog 3) m n D rfl HM3.out.drew (by unfold maxLen; omega) (fourV x0 x1 x2 x3) (.int .i64 n) (keyLit x0 x1 x2 x3) rfl rfl (keyOf_four x0 x1 x2 x3) (.lit (.int .i64 n)) [] (plainElem_int Try.underlying3 (WalkArith.wf_i64 (by omega))) ?_; intro w4 hown4 hgrow4; have hg4 := grown_heap hgrow4 HG3d.out (fun e => hgm (Option.some.inj e).symm); have ho4 := HO3.out.drew.kept hgrow4 (Or.inr (own_notmap HO3.out HM3.out)); have hmv4 := hmv3.drew.mapped hBm hgrow4; have y3 : w4.cell? ⟨g, 3, none⟩ = some (.int .i64 n) := (by rw [Joins.cell_of_block hg4]; rfl); have fy3 := fr_of hg4 3; clear hgrow4; have HG4 := Lib.hid hg4; have HM4 := Lib.hid hown4; have HO4 := Lib.hid ho4; clear hg4 hown4 ho4)) | fail)
          go_roundg (to - (n + 1))
          case measure => omega
          case rel =>
            have e : aheadI b n = -1 := by
              have h1 := (lastOcc_lt b [x0, x1, x2, x3] n).1
              rw [HP.out] at h1
              unfold aheadI; rw [if_pos h4, HKey.out, HP.out]; omega
            have ho := HO4.out
            rw [← e, intsV_snoc, ← aheadL_snoc] at ho
            exact ⟨n + 1, _, _, hlt2, rfl, fd_set3 HG4.out ho HM4.out (Nat.le_refl _) (HK.out.put HM3.out.isMap h4 HKey.out) hBg hBm, hmv4.setCell hBg _ _⟩
      · have C1 := Lib.hid (fun wX h => at_no b A cap g n wX h hs (by omega) (by omega))
        have HG := Lib.hid hg
        have HO := Lib.hid hown
        have HM := Lib.hid hmap
        have HK := Lib.hid hok
        clear hg hown hmap hok
        go_wp2_with (first | (go_at_call 28; refine (C1.out _ (by assumption)).mono ?_; rintro e w' ⟨rfl, rfl⟩) | (at_builtin; go_loud (refine wpList_append_own _ rfl (.tmp 36) (.tmp 37) 53 rfl B 3 i0 (.int .i64 0) 1 8 Try.underlying53 hi hz0 hz1 hz2 rfl (by decide) _ n _ rfl (((HO.out.alloc _).alloc _).alloc _) ⟨wr.heap.size + 1 + 1, 0, none⟩ 1 1 [.int .i64 (-1)] rfl rfl (cell_one_at _ _ _ _ (by simp)) (oneI _) (by unfold maxLen; omega) (by omega) (by simp; omega) ?_; intro v' w2 hown' hgrow _; obtain ⟨gv, cv, hv4⟩ := Joins.ownsRow_form hown' (by omega); subst hv4; replace hgrow : World.grownBy _ w2 v.ownBlock := hgrow; have hne := own_not HO.out HG.out (by decide); have hnm := own_notmap HO.out HM.out; have hg2 := grown_heap hgrow (heap_old _ trivial (heap_old _ trivial (heap_old _ trivial HG.out))) hne; have hm2 := (((HM.out.alloc _).alloc _).alloc _).kept hgrow (Ne.symm hnm); have hmv2 := (((hmv.alloc _).alloc _).alloc _).grown (((HO.out.alloc _).alloc _).alloc _) hgrow; have k2 : w2.cell? ⟨g, 2, none⟩ = some v := (by rw [Joins.cell_of_block hg2]; rfl); have k3 : w2.cell? ⟨g, 3, none⟩ = some (.int .i64 n) := (by rw [Joins.cell_of_block hg2]; rfl); have f2 := fr_of hg2 2; have f3 := fr_of hg2 3; clear hgrow; have HG2 := Lib.hid hg2; have HM2 := Lib.hid hm2; have HO2 := Lib.hid hown'; clear hg2 hm2 hown' hne hnm)) | fail)
        go_roundg (to - (n + 1))
        case measure => omega
        case rel =>
          have e : aheadI b n = -1 := by unfold aheadI; rw [if_neg h4]
          have ho := HO2.out
          rw [← e, intsV_snoc, ← aheadL_snoc] at ho
          exact ⟨n + 1, _, _, hlt2, rfl, fd_set3 (fd_set2 HG2.out _) (ownsRow_setCell_other ho (own_not ho HG2.out (by decide)) _) (HM2.out.setCell (Ne.symm (map_ne HG2.out HM2.out)) _) (by omega) (HK.out.keep (by omega)) hBg hBm, (hmv2.setCell hBg _ _).setCell hBg _ _⟩
    · obtain rfl : n = to := by omega
      have HG := Lib.hid hg
      have HO := Lib.hid hown
      have HM := Lib.hid hmap
      have HK := Lib.hid hok
      clear hg hown hmap hok
      go_wp2
      go_end0
      exact ⟨rfl, ⟨v, D, HG.out, HO.out, HM.out, HK.out, hBg, hBm⟩, hmv⟩
end Go.Proofs.Ytebmnfffmpiceaa
