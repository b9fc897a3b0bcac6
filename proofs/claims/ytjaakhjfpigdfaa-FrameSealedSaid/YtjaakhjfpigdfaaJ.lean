import Derived.Test.YtjaakhjfpigdfaaD
import Derived.Test.YtjaakhjfpigdfaaF
import Derived.Test.YtjaakhjfpigdfaaV
/-! The step: its first region. -/
namespace Go.Proofs.Ytjaakhjfpigdfaa
open Go.RowKit
set_option linter.unusedVariables false
set_option linter.unusedSimpArgs false
/-- A row of one's own that an operation makes and another fills. -/
def Slot (L : Nat → Bool) (vs : Nat → Value) (B : Nat) (t : TypeId) (ai si : Nat) (Z F : Array Value) (w : World) : Prop :=
  (L si = true → L ai = true) ∧ (L ai = true → ∃ g, vs ai = .pointer (some ⟨g, 0, none⟩) ∧ B ≤ g ∧ w.heap[g]? = some (.cells (if L si = true then F else Z) t (0, 0)))
def Apart2 (L : Nat → Bool) (vs : Nat → Value) (a b : Nat) : Prop := L a = true → L b = true → vs a ≠ vs b
theorem Slot.keep {L : Nat → Bool} {vs : Nat → Value} {B : Nat} {t : TypeId} {ai si : Nat} {Z F : Array Value} {w w' : World} (h : Slot L vs B t ai si Z F w) (i : Nat) (u : Value) (h1 : ai ≠ i) (h2 : si ≠ i) (hb : Below w.heap.size w w') : Slot (upd L i true) (upd vs i u) B t ai si Z F w' := by
  unfold Slot
  rw [upd_other L true h1, upd_other L true h2, upd_other vs u h1]
  refine ⟨h.1, fun ha => ?_⟩
  obtain ⟨g, e, hB, hc⟩ := h.2 ha
  exact ⟨g, e, hB, by rw [hb.block g (Array.getElem?_eq_some_iff.1 hc).1]; exact hc⟩
theorem Slot.made {L : Nat → Bool} {vs : Nat → Value} {B : Nat} {t : TypeId} {ai si : Nat} {Z F : Array Value} {w : World} (h : Slot L vs B t ai si Z F w) (hl : L ai = false) (hne : si ≠ ai) (hB : B ≤ w.heap.size) : Slot (upd L ai true) (upd vs ai (.pointer (some ⟨w.heap.size, 0, none⟩))) B t ai si Z F (w.alloc (.cells Z t)) := by
  have hs : L si = false := by
    cases hq : L si with
    | false => rfl
    | true => have := h.1 hq; rw [hl] at this; cases this
  unfold Slot
  rw [upd_same, upd_same, upd_other L true hne, hs]
  exact ⟨(fun h => by cases h), fun _ => ⟨_, rfl, hB, heap_new _ _ _ rfl⟩⟩
theorem Slot.filled {L : Nat → Bool} {vs : Nat → Value} {B : Nat} {t : TypeId} {ai si : Nat} {Z F : Array Value} {w : World} (h : Slot L vs B t ai si Z F w) (hl : L ai = true) (u : Value) (g : Nat) (hg : vs ai = .pointer (some ⟨g, 0, none⟩)) (hne : ai ≠ si) : Slot (upd L si true) (upd vs si u) B t ai si Z F (w.setRow g F) := by
  unfold Slot
  rw [upd_same, upd_other L true hne, upd_other vs u hne]
  refine ⟨fun _ => hl, fun _ => ?_⟩
  obtain ⟨g', e, hB, hc⟩ := h.2 hl
  rw [hg] at e
  have e2 : g = g' := by simpa using e
  subst e2
  exact ⟨g, hg, hB, setRow_heap _ _ _ _ _ _ hc⟩
theorem Slot.beside {L : Nat → Bool} {vs : Nat → Value} {B : Nat} {t : TypeId} {ai si : Nat} {Z F : Array Value} {w : World} (h : Slot L vs B t ai si Z F w) (i : Nat) (u : Value) (h1 : ai ≠ i) (h2 : si ≠ i) (g : Nat) (cs : Array Value) (hap : L ai = true → vs ai ≠ .pointer (some ⟨g, 0, none⟩)) : Slot (upd L i true) (upd vs i u) B t ai si Z F (w.setRow g cs) := by
  unfold Slot
  rw [upd_other L true h1, upd_other L true h2, upd_other vs u h1]
  refine ⟨h.1, fun ha => ?_⟩
  obtain ⟨g', e, hB, hc⟩ := h.2 ha
  refine ⟨g', e, hB, ?_⟩
  rw [setRow_other _ _ _ _ (by intro e2; subst e2; exact hap ha e)]
  exact hc
theorem Slot.at {L : Nat → Bool} {vs : Nat → Value} {B : Nat} {t : TypeId} {ai si : Nat} {Z F : Array Value} {w : World} (h : Slot L vs B t ai si Z F w) (hl : L ai = true) : ∃ g, vs ai = .pointer (some ⟨g, 0, none⟩) ∧ B ≤ g ∧ w.heap[g]? = some (.cells (if L si = true then F else Z) t (0, 0)) := h.2 hl
theorem Slot.fresh {L : Nat → Bool} {vs : Nat → Value} {B : Nat} {t : TypeId} {ai si : Nat} {Z F : Array Value} {w : World} (h : Slot L vs B t ai si Z F w) (hl : L ai = true) : vs ai ≠ .pointer (some ⟨w.heap.size, 0, none⟩) := by
  obtain ⟨g, e, _, hc⟩ := h.2 hl
  have hlt : g < w.heap.size := (Array.getElem?_eq_some_iff.1 hc).1
  rw [e]
  intro e2
  have e3 : g = w.heap.size := by injection e2 with e2; injection e2 with e2; injection e2
  omega
theorem Apart2.keep {L : Nat → Bool} {vs : Nat → Value} {a b : Nat} (h : Apart2 L vs a b) (i : Nat) (u : Value) (h1 : a ≠ i) (h2 : b ≠ i) : Apart2 (upd L i true) (upd vs i u) a b := by
  unfold Apart2
  rw [upd_other L true h1, upd_other L true h2, upd_other vs u h1, upd_other vs u h2]
  exact h
theorem Apart2.left {L : Nat → Bool} {vs : Nat → Value} {a b : Nat} (u : Value) (hne : b ≠ a) (h : L b = true → vs b ≠ u) : Apart2 (upd L a true) (upd vs a u) a b := by
  unfold Apart2
  rw [upd_same, upd_same, upd_other L true hne, upd_other vs u hne]
  exact fun _ hb e => h hb e.symm
theorem Apart2.right {L : Nat → Bool} {vs : Nat → Value} {a b : Nat} (u : Value) (hne : a ≠ b) (h : L a = true → vs a ≠ u) : Apart2 (upd L b true) (upd vs b u) a b := by
  unfold Apart2
  rw [upd_same, upd_same, upd_other L true hne, upd_other vs u hne]
  exact fun ha _ e => h ha e
def Is (L : Nat → Bool) (vs : Nat → Value) (i : Nat) (v : Value) : Prop := L i = true → vs i = v
theorem Is.keep {L : Nat → Bool} {vs : Nat → Value} {k : Nat} {v : Value} (h : Is L vs k v) (i : Nat) (u : Value) (h1 : k ≠ i) : Is (upd L i true) (upd vs i u) k v := by
  unfold Is
  rw [upd_other L true h1, upd_other vs u h1]
  exact h
theorem Is.now {L : Nat → Bool} {vs : Nat → Value} (k : Nat) (v : Value) : Is (upd L k true) (upd vs k v) k v := fun _ => upd_same _ _ _
/-- What holds at all times in the step's first region. -/
structure JS (s : List W32) (l : By) (w0 : World) (L : Nat → Bool) (vs : Nat → Value) (w : World) : Prop where
  bel : Below w0.heap.size w0 w
  i0 : Is L vs 0 (.agg (V8 l))
  i1 : Is L vs 1 (.agg (U (schedL l)))
  i2 : Is L vs 2 (.agg (U kL))
  i3 : Is L vs 3 (.agg (U s))
  s4 : Slot L vs w0.heap.size 99 4 7 (U (List.replicate 64 0)) (U (schedL l)) w
  s5 : Slot L vs w0.heap.size 99 5 8 (U (List.replicate 64 0)) (U kL) w
  s6 : Slot L vs w0.heap.size 31 6 9 (U (List.replicate 8 0)) (U s) w
  a45 : Apart2 L vs 4 5
  a46 : Apart2 L vs 4 6
  a56 : Apart2 L vs 5 6
theorem JS.quiet {s : List W32} {l : By} {w0 : World} {L : Nat → Bool} {vs : Nat → Value} {w w' : World} (h : JS s l w0 L vs w) (i : Nat) (u : Value) (hi : i < 4) (hu : ∀ v, (i = 0 → v = .agg (V8 l)) → (i = 1 → v = .agg (U (schedL l))) → (i = 2 → v = .agg (U kL)) → (i = 3 → v = .agg (U s)) → u = v) (hb : Below w.heap.size w w') : JS s l w0 (upd L i true) (upd vs i u) w' := by
  have hb2 := h.bel.trans (hb.mono h.bel.size)
  have s4 := h.s4.keep i u (by omega) (by omega) hb
  have s5 := h.s5.keep i u (by omega) (by omega) hb
  have s6 := h.s6.keep i u (by omega) (by omega) hb
  have a1 := h.a45.keep i u (by omega) (by omega)
  have a2 := h.a46.keep i u (by omega) (by omega)
  have a3 := h.a56.keep i u (by omega) (by omega)
  match i, hi with
  | 0, _ => exact ⟨hb2, by rw [hu (.agg (V8 l)) (fun _ => rfl) (by simp) (by simp) (by simp)]; exact Is.now _ _, h.i1.keep _ _ (by decide), h.i2.keep _ _ (by decide), h.i3.keep _ _ (by decide), s4, s5, s6, a1, a2, a3⟩
  | 1, _ => exact ⟨hb2, h.i0.keep _ _ (by decide), by rw [hu (.agg (U (schedL l))) (by simp) (fun _ => rfl) (by simp) (by simp)]; exact Is.now _ _, h.i2.keep _ _ (by decide), h.i3.keep _ _ (by decide), s4, s5, s6, a1, a2, a3⟩
  | 2, _ => exact ⟨hb2, h.i0.keep _ _ (by decide), h.i1.keep _ _ (by decide), by rw [hu (.agg (U kL)) (by simp) (by simp) (fun _ => rfl) (by simp)]; exact Is.now _ _, h.i3.keep _ _ (by decide), s4, s5, s6, a1, a2, a3⟩
  | 3, _ => exact ⟨hb2, h.i0.keep _ _ (by decide), h.i1.keep _ _ (by decide), h.i2.keep _ _ (by decide), by rw [hu (.agg (U s)) (by simp) (by simp) (by simp) (fun _ => rfl)]; exact Is.now _ _, s4, s5, s6, a1, a2, a3⟩

theorem JS.start (s : List W32) (l : By) (w0 : World) : JS s l w0 (fun _ => false) (fun _ => undef) w0.drew :=
  ⟨(Below.refl _ _).drew, (fun h => by cases h), (fun h => by cases h), (fun h => by cases h), (fun h => by cases h), ⟨(fun h => by cases h), (fun h => by cases h)⟩, ⟨(fun h => by cases h), (fun h => by cases h)⟩, ⟨(fun h => by cases h), (fun h => by cases h)⟩, (fun h => by cases h), (fun h => by cases h), (fun h => by cases h)⟩
theorem below_alloc1 (w : World) (o : Obj) : Below w.heap.size w (w.alloc o) := (Below.refl _ _).alloc (Nat.le_refl _) o
theorem JS.made4 {s : List W32} {l : By} {w0 : World} {L : Nat → Bool} {vs : Nat → Value} {w : World} (h : JS s l w0 L vs w) (hl : L 4 = false) : JS s l w0 (upd L 4 true) (upd vs 4 (.pointer (some ⟨w.heap.size, 0, none⟩))) (w.alloc (.cells (U (List.replicate 64 0)) 99)) :=
  ⟨h.bel.trans ((below_alloc1 w _).mono h.bel.size), h.i0.keep _ _ (by decide), h.i1.keep _ _ (by decide), h.i2.keep _ _ (by decide), h.i3.keep _ _ (by decide), h.s4.made hl (by decide) h.bel.size, h.s5.keep _ _ (by decide) (by decide) (below_alloc1 w _), h.s6.keep _ _ (by decide) (by decide) (below_alloc1 w _), Apart2.left _ (by decide) h.s5.fresh, Apart2.left _ (by decide) h.s6.fresh, h.a56.keep _ _ (by decide) (by decide)⟩
theorem JS.made5 {s : List W32} {l : By} {w0 : World} {L : Nat → Bool} {vs : Nat → Value} {w : World} (h : JS s l w0 L vs w) (hl : L 5 = false) : JS s l w0 (upd L 5 true) (upd vs 5 (.pointer (some ⟨w.heap.size, 0, none⟩))) (w.alloc (.cells (U (List.replicate 64 0)) 99)) :=
  ⟨h.bel.trans ((below_alloc1 w _).mono h.bel.size), h.i0.keep _ _ (by decide), h.i1.keep _ _ (by decide), h.i2.keep _ _ (by decide), h.i3.keep _ _ (by decide), h.s4.keep _ _ (by decide) (by decide) (below_alloc1 w _), h.s5.made hl (by decide) h.bel.size, h.s6.keep _ _ (by decide) (by decide) (below_alloc1 w _), Apart2.right _ (by decide) h.s4.fresh, h.a46.keep _ _ (by decide) (by decide), Apart2.left _ (by decide) h.s6.fresh⟩
theorem JS.made6 {s : List W32} {l : By} {w0 : World} {L : Nat → Bool} {vs : Nat → Value} {w : World} (h : JS s l w0 L vs w) (hl : L 6 = false) : JS s l w0 (upd L 6 true) (upd vs 6 (.pointer (some ⟨w.heap.size, 0, none⟩))) (w.alloc (.cells (U (List.replicate 8 0)) 31)) :=
  ⟨h.bel.trans ((below_alloc1 w _).mono h.bel.size), h.i0.keep _ _ (by decide), h.i1.keep _ _ (by decide), h.i2.keep _ _ (by decide), h.i3.keep _ _ (by decide), h.s4.keep _ _ (by decide) (by decide) (below_alloc1 w _), h.s5.keep _ _ (by decide) (by decide) (below_alloc1 w _), h.s6.made hl (by decide) h.bel.size, h.a45.keep _ _ (by decide) (by decide), Apart2.right _ (by decide) h.s4.fresh, Apart2.right _ (by decide) h.s5.fresh⟩
theorem JS.put7 {s : List W32} {l : By} {w0 : World} {L : Nat → Bool} {vs : Nat → Value} {w : World} (h : JS s l w0 L vs w) (h4 : L 4 = true) (h5 : L 5 = true) (h6 : L 6 = true) (u : Value) (g : Nat) (hg : vs 4 = .pointer (some ⟨g, 0, none⟩)) (hB : w0.heap.size ≤ g) : JS s l w0 (upd L 7 true) (upd vs 7 u) (w.setRow g (U (schedL l))) :=
  ⟨below_setRow _ _ h.bel hB, h.i0.keep _ _ (by decide), h.i1.keep _ _ (by decide), h.i2.keep _ _ (by decide), h.i3.keep _ _ (by decide), h.s4.filled h4 u g hg (by decide), h.s5.beside _ _ (by decide) (by decide) _ _ (fun h5 e => h.a45 h4 h5 (hg.trans e.symm)), h.s6.beside _ _ (by decide) (by decide) _ _ (fun h6 e => h.a46 h4 h6 (hg.trans e.symm)), h.a45.keep _ _ (by decide) (by decide), h.a46.keep _ _ (by decide) (by decide), h.a56.keep _ _ (by decide) (by decide)⟩
theorem JS.put8 {s : List W32} {l : By} {w0 : World} {L : Nat → Bool} {vs : Nat → Value} {w : World} (h : JS s l w0 L vs w) (h4 : L 4 = true) (h5 : L 5 = true) (h6 : L 6 = true) (u : Value) (g : Nat) (hg : vs 5 = .pointer (some ⟨g, 0, none⟩)) (hB : w0.heap.size ≤ g) : JS s l w0 (upd L 8 true) (upd vs 8 u) (w.setRow g (U kL)) :=
  ⟨below_setRow _ _ h.bel hB, h.i0.keep _ _ (by decide), h.i1.keep _ _ (by decide), h.i2.keep _ _ (by decide), h.i3.keep _ _ (by decide), h.s4.beside _ _ (by decide) (by decide) _ _ (fun h4 e => h.a45 h4 h5 (e.trans hg.symm)), h.s5.filled h5 u g hg (by decide), h.s6.beside _ _ (by decide) (by decide) _ _ (fun h6 e => h.a56 h5 h6 (hg.trans e.symm)), h.a45.keep _ _ (by decide) (by decide), h.a46.keep _ _ (by decide) (by decide), h.a56.keep _ _ (by decide) (by decide)⟩
theorem JS.put9 {s : List W32} {l : By} {w0 : World} {L : Nat → Bool} {vs : Nat → Value} {w : World} (h : JS s l w0 L vs w) (h4 : L 4 = true) (h5 : L 5 = true) (h6 : L 6 = true) (u : Value) (g : Nat) (hg : vs 6 = .pointer (some ⟨g, 0, none⟩)) (hB : w0.heap.size ≤ g) : JS s l w0 (upd L 9 true) (upd vs 9 u) (w.setRow g (U s)) :=
  ⟨below_setRow _ _ h.bel hB, h.i0.keep _ _ (by decide), h.i1.keep _ _ (by decide), h.i2.keep _ _ (by decide), h.i3.keep _ _ (by decide), h.s4.beside _ _ (by decide) (by decide) _ _ (fun h4 e => h.a46 h4 h6 (e.trans hg.symm)), h.s5.beside _ _ (by decide) (by decide) _ _ (fun h5 e => h.a56 h5 h6 (e.trans hg.symm)), h.s6.filled h6 u g hg (by decide), h.a45.keep _ _ (by decide) (by decide), h.a46.keep _ _ (by decide) (by decide), h.a56.keep _ _ (by decide) (by decide)⟩
theorem below_heap {B : Nat} {w w' : World} (h : Below B w w') {k : Nat} {o : Obj} (hk : w.heap[k]? = some o) (hlt : k < B) : w'.heap[k]? = some o := by rw [h.block k hlt]; exact hk
theorem right_2 (x : W32) (w : World) : Calls Try.prog 76 #[.int .u32 x.toNat, .int .u64 2] w fun e w' => e = .returned (.int .u32 (rot x 2).toNat) ∧ w' = w := (right_any x 2 (by omega) (by omega) w).mono fun _ _ h => ⟨h.1, h.2.symm⟩
theorem right_6 (x : W32) (w : World) : Calls Try.prog 76 #[.int .u32 x.toNat, .int .u64 6] w fun e w' => e = .returned (.int .u32 (rot x 6).toNat) ∧ w' = w := (right_any x 6 (by omega) (by omega) w).mono fun _ _ h => ⟨h.1, h.2.symm⟩
theorem right_11 (x : W32) (w : World) : Calls Try.prog 76 #[.int .u32 x.toNat, .int .u64 11] w fun e w' => e = .returned (.int .u32 (rot x 11).toNat) ∧ w' = w := (right_any x 11 (by omega) (by omega) w).mono fun _ _ h => ⟨h.1, h.2.symm⟩
theorem right_13 (x : W32) (w : World) : Calls Try.prog 76 #[.int .u32 x.toNat, .int .u64 13] w fun e w' => e = .returned (.int .u32 (rot x 13).toNat) ∧ w' = w := (right_any x 13 (by omega) (by omega) w).mono fun _ _ h => ⟨h.1, h.2.symm⟩
theorem right_22 (x : W32) (w : World) : Calls Try.prog 76 #[.int .u32 x.toNat, .int .u64 22] w fun e w' => e = .returned (.int .u32 (rot x 22).toNat) ∧ w' = w := (right_any x 22 (by omega) (by omega) w).mono fun _ _ h => ⟨h.1, h.2.symm⟩
theorem right_25 (x : W32) (w : World) : Calls Try.prog 76 #[.int .u32 x.toNat, .int .u64 25] w fun e w' => e = .returned (.int .u32 (rot x 25).toNat) ∧ w' = w := (right_any x 25 (by omega) (by omega) w).mono fun _ _ h => ⟨h.1, h.2.symm⟩
theorem run_index_U (s : List W32) (k : Nat) (hk : k < 8) (hs : s.length = 8) (w : World) : (Instr.index 31 (.agg (U s)) (.int .i64 (k : Int))).run Try.prog w = .ok (.int .u32 ((s.getD k 0).toNat : Int)) w :=
  run_index_arr 31 30 8 (U s) _ rfl k _ Try.underlying31 Try.underlying30 (by kernel_rfl) hk (U_at s k (by omega)) w
def addK (R s : List W32) : Nat → List W32
  | 0 => R
  | k + 1 => (addK R s k).set k ((addK R s k).getD k 0 + s.getD k 0)
theorem addK_len (R s : List W32) (h : R.length = 8) : ∀ k, (addK R s k).length = 8
  | 0 => h
  | k + 1 => by rw [addK, List.length_set]; exact addK_len R s h k
theorem addK_all (R s : List W32) (h : R.length = 8) (hs : s.length = 8) : addK R s 8 = List.zipWith (· + ·) R s := by
  match R, h, s, hs with
  | [a, b, c, d, e, f, g, h], _, [a', b', c', d', e', f', g', h'], _ => rfl
/-- What holds at the head of a round. -/
structure ST (w : World) (s R : List W32) (l : By) (g5 g6 g7 : Nat) (wr : World) : Prop where
  d2 : wr.heap[w.heap.size]? = some (.cells (U s) 31)
  d4 : wr.heap[w.heap.size + 1 + 1]? = some (.cells (U (List.replicate 8 0)) 31)
  d5 : wr.heap[g5]? = some (.cells (U (schedL l)) 99)
  d6 : wr.heap[g6]? = some (.cells (U kL) 99)
  d7 : wr.heap[g7]? = some (.cells (U R) 31)
  bel : Below w.heap.size w wr
theorem ST.drewN {w : World} {s R : List W32} {l : By} {g5 g6 g7 : Nat} {wr : World} (h : ST w s R l g5 g6 g7 wr) (n : Nat) : ST w s R l g5 g6 g7 (wr.drewN n) :=
  ⟨h.d2, h.d4, h.d5, h.d6, h.d7, ⟨h.bel.os, h.bel.tape, h.bel.output, h.bel.size, h.bel.block⟩⟩
theorem ST.put {w : World} {s R R' : List W32} {l : By} {g5 g6 g7 : Nat} {wr : World} (h : ST w s R l g5 g6 g7 wr) (h5 : g5 ≠ g7) (h6 : g6 ≠ g7) (h7 : w.heap.size + 3 ≤ g7) : ST w s R' l g5 g6 g7 (wr.setRow g7 (U R')) :=
  ⟨by rw [setRow_other _ _ _ _ (by omega)]; exact h.d2, by rw [setRow_other _ _ _ _ (by omega)]; exact h.d4, by rw [setRow_other _ _ _ _ h5]; exact h.d5, by rw [setRow_other _ _ _ _ h6]; exact h.d6, setRow_heap _ _ _ _ _ _ h.d7, below_setRow _ _ h.bel (by omega)⟩
theorem ST.setAt {w : World} {s R : List W32} {l : By} {g5 g6 g7 : Nat} {wr : World} (h : ST w s R l g5 g6 g7 wr) (h5 : g5 ≠ g7) (h6 : g6 ≠ g7) (h7 : w.heap.size + 3 ≤ g7) (i : Nat) (x : W32) : ST w s (R.set i x) l g5 g6 g7 (wr.setCell ⟨g7, i, none⟩ (.int .u32 (x.toNat : Int))) :=
  ⟨heap_set_other h.d2 (by omega), heap_set_other h.d4 (by omega), heap_set_other h.d5 h5, heap_set_other h.d6 h6, by rw [← U_set]; exact heap_setCell h.d7 i _, h.bel.setCell (by simp; omega) _⟩
theorem ST.cell {w : World} {s R : List W32} {l : By} {g5 g6 g7 : Nat} {wr : World} (h : ST w s R l g5 g6 g7 wr) (i : Nat) (x : W32) (hx : R[i]? = some x) : wr.cell? ⟨g7, i, none⟩ = some (.int .u32 (x.toNat : Int)) := by
  rw [Joins.cell_of_block h.d7]
  simp [U, hx]
theorem ST.cellk {w : World} {s R : List W32} {l : By} {g5 g6 g7 : Nat} {wr : World} (h : ST w s R l g5 g6 g7 wr) (i : Nat) (hi : i < 64) : wr.cell? ⟨g6, i, none⟩ = some (.int .u32 ((kL.getD i 0).toNat : Int)) := by
  rw [Joins.cell_of_block h.d6]; exact U_at kL i (by rw [kL_len]; exact hi)
theorem ST.cellx {w : World} {s R : List W32} {l : By} {g5 g6 g7 : Nat} {wr : World} (h : ST w s R l g5 g6 g7 wr) (i : Nat) (hi : i < 64) : wr.cell? ⟨g5, i, none⟩ = some (.int .u32 (((schedL l).getD i 0).toNat : Int)) := by
  rw [Joins.cell_of_block h.d5]; exact U_at (schedL l) i (by rw [show (schedL l).length = 64 from extW_len l 48]; exact hi)
theorem and32 (a b : W32) : bits .and .u32 (a.toNat : Int) (b.toNat : Int) = ((a &&& b).toNat : Int) := by rw [u32_and_nat _ _ a.isLt b.isLt]; simp
theorem l_xor (a b : W32) : ∃ y : W32, bits .xor .u32 (a.toNat : Int) (b.toNat : Int) = (y.toNat : Int) ∧ a ^^^ b = y := ⟨_, xor32 a b, rfl⟩
theorem l_and (a b : W32) : ∃ y : W32, bits .and .u32 (a.toNat : Int) (b.toNat : Int) = (y.toNat : Int) ∧ a &&& b = y := ⟨_, and32 a b, rfl⟩
theorem l_sum (a b : W32) : ∃ y : W32, ((a.toNat : Int) + (b.toNat : Int)) % 4294967296 = (y.toNat : Int) ∧ IntKind.u32.wrap ((a.toNat : Int) + (b.toNat : Int)) = (y.toNat : Int) ∧ a + b = y := ⟨_, add32 a b, wrap_add32 a b, rfl⟩
theorem l_not (a : W32) : ∃ y : W32, bits .xor .u32 (if IntKind.u32.signed = true then -1 else IntKind.u32.max) (a.toNat : Int) = (y.toNat : Int) ∧ ~~~a = y := by
  refine ⟨_, ?_, rfl⟩
  have h := xor32 (BitVec.allOnes 32) a
  rw [BitVec.allOnes_xor] at h
  exact h
theorem l_add (a b : W32) : ∃ y : W32, IntKind.u32.wrap ((a.toNat : Int) + (b.toNat : Int)) = (y.toNat : Int) ∧ a + b = y := ⟨_, wrap_add32 a b, rfl⟩
set_option maxRecDepth 100000 in
set_option maxHeartbeats 3000000 in
theorem step_any (s : List W32) (hs : s.length = 8) (l : By) (hl : l.length = 64) (w : World) : Calls Try.prog 28 #[.agg (U s), .agg (V8 l)] w fun e w' => e = .returned (.agg (U (stepL s l))) ∧ Below w.heap.size w w' := by
  have hS : (Try.prog.info? 31).map (·.size) = some (U s).size := by rw [U_size, hs]; kernel_rfl
  have hE : (Try.prog.info? 99).map (·.size) = some (U (schedL l)).size := by rw [U_size, show (schedL l).length = 64 from extW_len l 48]; kernel_rfl
  have hK2 : (Try.prog.info? 99).map (·.size) = some (U kL).size := by rw [U_size, kL_len]; kernel_rfl
  have hV : (Try.prog.info? 32).map (·.size) = some (V8 l).size := by rw [V8_size, hl]; kernel_rfl
  go_enter Try.func28, Try.ntmps28
  go_upto_region 1 with (fail)
  generalize hw0 : (World.alloc _ _) = w0
  have b0 : Below w.heap.size w w0 := by rw [← hw0]; exact (((Below.refl _ _).alloc (Nat.le_refl _) _).alloc (by simp) _).alloc (by simp; omega) _
  have z0 : w.heap.size + 3 = w0.heap.size := by rw [← hw0]; simp
  have h2 : w0.heap[w.heap.size]? = some (.cells (U s) 31 (0, 0)) := by rw [← hw0]; exact heap_old _ trivial (heap_old _ trivial (heap_new w _ _ rfl))
  have h3 : w0.heap[w.heap.size + 1]? = some (.cells (V8 l) 32 (0, 0)) := by rw [← hw0]; exact heap_old _ trivial (heap_new _ _ _ (by simp))
  have h4 : w0.heap[w.heap.size + 1 + 1]? = some (.cells (U (List.replicate 8 0)) 31 (0, 0)) := by rw [← hw0]; exact heap_new _ _ _ (by simp)
  clear hw0
  refine wp_region_inv (by kernel_rfl) (by kernel_rfl) (by kernel_rfl) (JS s l w0) (JS.start s l w0) ?_ ?_
  · intro i hi o L vs w1 b ho hL hn hJ hcame hstood K hK
    have hi10 : i < 10 := hi
    have hc : i = 0 ∨ i = 1 ∨ i = 2 ∨ i = 3 ∨ i = 4 ∨ i = 5 ∨ i = 6 ∨ i = 7 ∨ i = 8 ∨ i = 9 := by omega
    rcases hc with rfl | rfl | rfl | rfl | rfl | rfl | rfl | rfl | rfl | rfl
    · obtain rfl := Option.some.inj ho
      refine wp_load_row 32 (.tmp 3) rfl (w.heap.size + 1) ((hstood _ (by kernel_rfl)).trans rfl) 32 (V8 l) _ (below_heap hJ.bel h3 (by omega)) Try.underlying32 rfl hV (hK _ _ (hJ.quiet 0 _ (by decide) (fun v h _ _ _ => (h rfl).symm) (Below.refl _ _)))
    · obtain rfl := Option.some.inj ho
      have e0 := hJ.i0 (hn 0 (by kernel_rfl))
      have ea := hcame 0 19 (by kernel_rfl) (hn 0 (by kernel_rfl)) (of_decide_eq_true (by kernel_rfl))
      refine wp_call_fn 74 #[.tmp 19] #[32] rfl Try.f74 _ Try.func74 (by kernel_rfl) rfl #[.agg (V8 l)] (by simp [ea, e0]) ((schedule_any l hl w1).mono ?_)
      rintro e w' ⟨rfl, hb⟩
      exact ⟨_, rfl, hK _ _ (hJ.quiet 1 _ (by decide) (fun v _ h _ _ => (h rfl).symm) hb)⟩
    · obtain rfl := Option.some.inj ho
      refine wp_call_fn 75 #[] #[] rfl Try.f75 _ Try.func75 (by kernel_rfl) rfl #[] (by simp) ((constants_any w1).mono ?_)
      rintro e w' ⟨rfl, hb⟩
      exact ⟨_, rfl, hK _ _ (hJ.quiet 2 _ (by decide) (fun v _ _ h _ => (h rfl).symm) hb)⟩
    · obtain rfl := Option.some.inj ho
      refine wp_load_row 31 (.tmp 2) rfl w.heap.size ((hstood _ (by kernel_rfl)).trans rfl) 31 (U s) _ (below_heap hJ.bel h2 (by omega)) Try.underlying31 rfl hS (hK _ _ (hJ.quiet 3 _ (by decide) (fun v _ _ _ h => (h rfl).symm) (Below.refl _ _)))
    · obtain rfl := Option.some.inj ho
      exact wp_alloc_z 99 rfl (.agg (U (List.replicate 64 0))) (by kernel_rfl) (hK _ _ (hJ.made4 hL))
    · obtain rfl := Option.some.inj ho
      exact wp_alloc_z 99 rfl (.agg (U (List.replicate 64 0))) (by kernel_rfl) (hK _ _ (hJ.made5 hL))
    · obtain rfl := Option.some.inj ho
      exact wp_alloc_z 31 rfl (.agg (U (List.replicate 8 0))) (by kernel_rfl) (hK _ _ (hJ.made6 hL))
    · obtain rfl := Option.some.inj ho
      have n4 := hn 4 (by kernel_rfl)
      have n1 := hn 1 (by kernel_rfl)
      obtain ⟨g, hg, hB, hc⟩ := hJ.s4.at n4
      have ep := hcame 4 5 (by kernel_rfl) (hn 4 (by kernel_rfl)) (of_decide_eq_true (by kernel_rfl))
      have ea := hcame 1 20 (by kernel_rfl) (hn 1 (by kernel_rfl)) (of_decide_eq_true (by kernel_rfl))
      exact wp_store_row 99 (.tmp 5) (.tmp 20) rfl g (U (schedL l)) (ep.trans hg) (ea.trans (hJ.i1 n1)) 99 _ hc hE (by split <;> simp [U_size, show (schedL l).length = 64 from extW_len l 48]) (U_one _) (hK _ _ (hJ.put7 n4 (hn 5 (by kernel_rfl)) (hn 6 (by kernel_rfl)) _ g hg hB))
    · obtain rfl := Option.some.inj ho
      have n5 := hn 5 (by kernel_rfl)
      have n2 := hn 2 (by kernel_rfl)
      obtain ⟨g, hg, hB, hc⟩ := hJ.s5.at n5
      have ep := hcame 5 6 (by kernel_rfl) (hn 5 (by kernel_rfl)) (of_decide_eq_true (by kernel_rfl))
      have ea := hcame 2 21 (by kernel_rfl) (hn 2 (by kernel_rfl)) (of_decide_eq_true (by kernel_rfl))
      exact wp_store_row 99 (.tmp 6) (.tmp 21) rfl g (U kL) (ep.trans hg) (ea.trans (hJ.i2 n2)) 99 _ hc hK2 (by split <;> simp [U_size, kL_len]) (U_one _) (hK _ _ (hJ.put8 (hn 4 (by kernel_rfl)) n5 (hn 6 (by kernel_rfl)) _ g hg hB))
    · obtain rfl := Option.some.inj ho
      have n6 := hn 6 (by kernel_rfl)
      have n3 := hn 3 (by kernel_rfl)
      obtain ⟨g, hg, hB, hc⟩ := hJ.s6.at n6
      have ep := hcame 6 7 (by kernel_rfl) (hn 6 (by kernel_rfl)) (of_decide_eq_true (by kernel_rfl))
      have ea := hcame 3 22 (by kernel_rfl) (hn 3 (by kernel_rfl)) (of_decide_eq_true (by kernel_rfl))
      exact wp_store_row 31 (.tmp 7) (.tmp 22) rfl g (U s) (ep.trans hg) (ea.trans (hJ.i3 n3)) 31 _ hc hS (by split <;> simp [U_size, hs]) (U_one _) (hK _ _ (hJ.put9 (hn 4 (by kernel_rfl)) (hn 5 (by kernel_rfl)) n6 _ g hg hB))
  · intro vs w1 L hall hJ
    have al := fun j (h : j < 10) => hall j h
    clear hall
    have q0 := hJ.i0 (al 0 (by omega))
    have q1 := hJ.i1 (al 1 (by omega))
    have q2 := hJ.i2 (al 2 (by omega))
    have q3 := hJ.i3 (al 3 (by omega))
    obtain ⟨g5, q4, B5, c5⟩ := hJ.s4.at (al 4 (by omega))
    obtain ⟨g6, q5, B6, c6⟩ := hJ.s5.at (al 5 (by omega))
    obtain ⟨g7, q6, B7, c7⟩ := hJ.s6.at (al 6 (by omega))
    rw [if_pos (al 7 (by omega))] at c5
    rw [if_pos (al 8 (by omega))] at c6
    rw [if_pos (al 9 (by omega))] at c7
    have n57 : g5 ≠ g7 := fun e => hJ.a46 (al 4 (by omega)) (al 6 (by omega)) (by rw [q4, q6, e])
    have n67 : g6 ≠ g7 := fun e => hJ.a56 (al 5 (by omega)) (al 6 (by omega)) (by rw [q5, q6, e])
    have b1 := hJ.bel
    rw [putAll_lit [some 19, some 20, some 21, some 22, some 5, some 6, some 7, none, none, none] (by kernel_rfl)]
    simp only [putD, Act.put, List.setIfInBounds_toArray, List.set_cons_zero, List.set_cons_succ, q0, q1, q2, q3, q4, q5, q6]
    clear al hJ q0 q1 q2 q3 q4 q5 q6
    have b01 : Below w.heap.size w w1 := b0.trans (b1.mono (by omega))
    have H2 := Lib.hid (below_heap b1 h2 (by omega))
    have H4 := Lib.hid (below_heap b1 h4 (by omega))
    have C5 := Lib.hid c5
    have C6 := Lib.hid c6
    have C7 := Lib.hid c7
    have HS := Lib.hid hS
    have HSL := Lib.hid hs
    have lt5 : w.heap.size + 3 ≤ g5 := by omega
    have lt6 : w.heap.size + 3 ≤ g6 := by omega
    have lt7 : w.heap.size + 3 ≤ g7 := by omega
    clear h2 h3 h4 c5 c6 c7 hS hE hK2 hV b1 z0 b0 B5 B6 B7 hs
    go_wp2
    go_loopg [23] 64 (fun gk iv wr => ∃ i : Nat, gk = 64 - i ∧ i ≤ 64 ∧ iv = .int .i64 (i : Int) ∧ ST w s (roundsL (schedL l) s i) l g5 g6 g7 wr)
    case atStart => exact ⟨0, rfl, by omega, rfl, ⟨H2.out, H4.out, C5.out, C6.out, C7.out, b01⟩⟩
    case round =>
      obtain ⟨i, rfl, hi, rfl, hst⟩ := hrel
      have hlr := roundsL_len (schedL l) s HSL.out i
      by_cases hlt : i < 64
      · have hstep : roundsL (schedL l) s (i + 1) = rnd (kL.getD i 0) ((schedL l).getD i 0) (roundsL (schedL l) s i) := rfl
        obtain ⟨R, hR⟩ : ∃ R, roundsL (schedL l) s i = R := ⟨_, rfl⟩
        rw [hR] at hlr hst hstep
        obtain ⟨a, b, c, d, e, f, g, h, rfl⟩ : ∃ a b c d e f g h, R = [a, b, c, d, e, f, g, h] := by
          match R, hlr with
          | [a, b, c, d, e, f, g, h], _ => exact ⟨a, b, c, d, e, f, g, h, rfl⟩
        have k0 := hst.cell 0 a rfl
        have k1 := hst.cell 1 b rfl
        have k2 := hst.cell 2 c rfl
        have k4 := hst.cell 4 e rfl
        have k5 := hst.cell 5 f rfl
        have k6 := hst.cell 6 g rfl
        replace hstep := Lib.hid hstep
        replace hst := Lib.hid hst
        have hiI : (i : Int) < 64 := by omega
        clear hR H2 H4 C5 C6 C7 hlr
        go_wp2
        go_quiet (fail)
        clear k0 k1 k2 k4 k5 k6
        replace hst := Lib.hid (hst.out.drewN nq)
        obtain ⟨V, hV⟩ : ∃ V, wr.drewN nq = V := ⟨_, rfl⟩
        rw [hV] at hst ⊢
        clear hV
        have k7 := hst.out.cell 7 h rfl
        have kk := hst.out.cellk i hlt
        have kx := hst.out.cellx i hlt
        replace hst := Lib.hid hst.out
        obtain ⟨k, hk⟩ : ∃ k, kL.getD i 0 = k := ⟨_, rfl⟩
        obtain ⟨x, hx⟩ : ∃ x, (schedL l).getD i 0 = x := ⟨_, rfl⟩
        rw [hk] at kk hstep
        rw [hx] at kx hstep
        clear hk hx
        obtain ⟨y6, v6⟩ : ∃ y, rot e 6 = y := ⟨_, rfl⟩
        obtain ⟨y11, v11⟩ : ∃ y, rot e 11 = y := ⟨_, rfl⟩
        obtain ⟨y25, v25⟩ : ∃ y, rot e 25 = y := ⟨_, rfl⟩
        have R6 := Lib.hid (right_6 e)
        have R11 := Lib.hid (right_11 e)
        have R25 := Lib.hid (right_25 e)
        rw [v6] at R6
        rw [v11] at R11
        rw [v25] at R25
        obtain ⟨y44, q44, v44⟩ := l_xor y6 y11
        obtain ⟨y47, q47, v47⟩ := l_xor y44 y25
        obtain ⟨y48, q48, v48⟩ := l_add h y47
        obtain ⟨y51, q51, v51⟩ := l_and e f
        obtain ⟨y53, q53, v53⟩ := l_not e
        obtain ⟨y55, q55, v55⟩ := l_and y53 g
        obtain ⟨y56, q56, v56⟩ := l_xor y51 y55
        obtain ⟨y57, q57, v57⟩ := l_add y48 y56
        obtain ⟨y61, q61, v61⟩ := l_add y57 k
        obtain ⟨y65, q65, v65⟩ := l_add y61 x
        have VT1 := Lib.hid (show y65 = tW1 e f g h k x by rw [← v65, ← v61, ← v57, ← v56, ← v55, ← v53, ← v51, ← v48, ← v47, ← v44, ← v25, ← v11, ← v6]; rfl)
        clear v6 v11 v25 v44 v47 v48 v51 v53 v55 v56 v57 v61 v65
        go_wp2
        go_quiet ((first | (go_at_call_of 76 (Value.int IntKind.u64 6); exact Calls.quiet_of_same (R6.out _)) | (go_at_call_of 76 (Value.int IntKind.u64 11); exact Calls.quiet_of_same (R11.out _)) | (go_at_call_of 76 (Value.int IntKind.u64 25); exact Calls.quiet_of_same (R25.out _))))
        clear q44 q47 q48 q51 q53 q55 q56 q57 q61 q65 R6 R11 R25 k7 kk kx
        replace hst := Lib.hid (hst.out.drewN nq)
        obtain ⟨V2, hV⟩ : ∃ V2, V.drewN nq = V2 := ⟨_, rfl⟩
        rw [hV] at hst ⊢
        clear hV
        have k3 := hst.out.cell 3 d rfl
        obtain ⟨y2, v2⟩ : ∃ y, rot a 2 = y := ⟨_, rfl⟩
        obtain ⟨y13, v13⟩ : ∃ y, rot a 13 = y := ⟨_, rfl⟩
        obtain ⟨y22, v22⟩ : ∃ y, rot a 22 = y := ⟨_, rfl⟩
        have R2 := Lib.hid (right_2 a)
        have R13 := Lib.hid (right_13 a)
        have R22 := Lib.hid (right_22 a)
        rw [v2] at R2
        rw [v13] at R13
        rw [v22] at R22
        obtain ⟨y70, q70, v70⟩ := l_xor y2 y13
        obtain ⟨y73, q73, v73⟩ := l_xor y70 y22
        obtain ⟨y76, q76, v76⟩ := l_and a b
        obtain ⟨y79, q79, v79⟩ := l_and a c
        obtain ⟨y80, q80, v80⟩ := l_xor y76 y79
        obtain ⟨y83, q83, v83⟩ := l_and b c
        obtain ⟨y84, q84, v84⟩ := l_xor y80 y83
        obtain ⟨y85, q85, p85, v85⟩ := l_sum y73 y84
        obtain ⟨y88, q88, p88, v88⟩ := l_sum y65 y85
        obtain ⟨y95, q95, p95, v95⟩ := l_sum d y65
        have HN := Lib.hid (show [y88, a, b, c, y95, e, f, g] = rnd k x [a, b, c, d, e, f, g, h] by
          have h2 : y85 = tW2 a b c := by rw [← v85, ← v84, ← v83, ← v80, ← v79, ← v76, ← v73, ← v70, ← v22, ← v13, ← v2]; rfl
          rw [← v88, ← v95, h2, VT1.out]; rfl)
        clear v2 v13 v22 v70 v73 v76 v79 v80 v83 v84 v85 v88 v95 VT1
        go_wp2_with (first | (go_at_call_of 76 (Value.int IntKind.u64 2); refine (R2.out _).mono ?_; rintro e w' ⟨rfl, rfl⟩) | (go_at_call_of 76 (Value.int IntKind.u64 13); refine (R13.out _).mono ?_; rintro e w' ⟨rfl, rfl⟩) | (go_at_call_of 76 (Value.int IntKind.u64 22); refine (R22.out _).mono ?_; rintro e w' ⟨rfl, rfl⟩) | ((with_reducible show wpList _ _ _ (⟨none, .store 31 (.tmp 7) (.tmp 99), _, _, _, _⟩ :: _) _ _); refine wpList_store_row rfl 31 (.tmp 7) (.tmp 99) rfl g7 (U [y88, a, b, c, y95, e, f, g]) rfl rfl 31 (U [a, b, c, d, e, f, g, h]) hst.out.d7 (by kernel_rfl) rfl (U_one _) ?_))
        go_roundg (64 - (i + 1))
        case measure => omega
        case rel => exact ⟨i + 1, rfl, by omega, by go_num, by rw [hstep.out, ← HN.out]; exact hst.out.put n57 n67 lt7⟩
      · obtain rfl : i = 64 := by omega
        obtain ⟨R, hR⟩ : ∃ R, roundsL (schedL l) s 64 = R := ⟨_, rfl⟩
        rw [hR] at hlr hst
        have HR := Lib.hid hR
        have HLR := Lib.hid hlr
        have d2 := Lib.hid hst.d2
        replace hst := Lib.hid hst
        clear hR hlr H2 H4 C5 C6 C7
        go_wp2_with (first | ((with_reducible show wpList _ _ _ (⟨some 101, .load 31 (.tmp 2), _, _, _, _⟩ :: _) _ _); refine wpList_load_row rfl 31 (.tmp 2) rfl w.heap.size rfl 31 (U s) _ d2.out Try.underlying31 rfl HS.out ?_))
        go_loopg [102] 8 (fun gk iv wr => ∃ i : Nat, gk = 8 - i ∧ i ≤ 8 ∧ iv = .int .i64 (i : Int) ∧ ST w s (addK R s i) l g5 g6 g7 wr)
        case atStart => exact ⟨0, rfl, by omega, rfl, hst.out⟩
        case round =>
          obtain ⟨i, rfl, hi, rfl, hst⟩ := hrel
          have hlr := addK_len R s HLR.out i
          by_cases hlt : i < 8
          · have hstep : addK R s (i + 1) = (addK R s i).set i ((addK R s i).getD i 0 + s.getD i 0) := rfl
            have hix := fun w => run_index_U s i hlt HSL.out w
            have q : wr.cell? ⟨g7, i, none⟩ = some (.int .u32 (((addK R s i).getD i 0).toNat : Int)) := by rw [Joins.cell_of_block hst.d7]; exact U_at _ i (by omega)
            obtain ⟨X, hX⟩ : ∃ X, addK R s i = X := ⟨_, rfl⟩
            rw [hX] at hstep q hlr hst
            obtain ⟨p, hp⟩ : ∃ p, X.getD i 0 = p := ⟨_, rfl⟩
            obtain ⟨r, hr⟩ : ∃ p, s.getD i 0 = p := ⟨_, rfl⟩
            rw [hp] at q hstep
            rw [hr] at hix hstep
            obtain ⟨y, q1, q2, v⟩ := l_sum p r
            rw [v] at hstep
            have f0 := fr_of hst.d7 i
            have hiI : (i : Int) < 8 := by omega
            replace hstep := Lib.hid hstep
            replace hst := Lib.hid hst
            clear hX hp hr hlr v d2 HR
            go_wp2
            go_roundg (8 - (i + 1))
            case measure => omega
            case rel => exact ⟨i + 1, rfl, by omega, by go_num, by rw [hstep.out]; exact hst.out.setAt n57 n67 lt7 i y⟩
          · obtain rfl : i = 8 := by omega
            rw [addK_all R s HLR.out HSL.out] at hst
            have HE := Lib.hid (show List.zipWith (· + ·) R s = stepL s l by rw [← HR.out]; rfl)
            rw [HE.out] at hst
            have hZl := stepL_len s l HSL.out
            obtain ⟨Z, hZ⟩ : ∃ Z, stepL s l = Z := ⟨_, rfl⟩
            rw [hZ] at hst hZl
            have hsz : (Try.prog.info? 31).map (·.size) = some (U Z).size := by rw [U_size, hZl]; kernel_rfl
            have HZ2 := Lib.hid (show (U (List.replicate 8 0)).size = (U Z).size by rw [U_size, U_size, hZl]; rfl)
            have HSZ := Lib.hid hsz
            have HZ := Lib.hid hZ
            replace hst := Lib.hid hst
            clear hsz hlr HR HE hZl hZ d2
            go_upto_region 15 with (fail)
            refine wp_region_list ?_
            refine wpList_load_row rfl 31 (.tmp 7) rfl g7 rfl 31 (U Z) _ hst.out.d7 Try.underlying31 rfl HSZ.out ?_
            refine wpList_store_row rfl 31 (.tmp 4) (.tmp 113) rfl (w.heap.size + 1 + 1) (U Z) rfl rfl 31 (U (List.replicate 8 0)) hst.out.d4 HSZ.out HZ2.out (U_one _) ?_
            refine wpList_nil ?_
            obtain ⟨Wz, hWz⟩ : ∃ Wz, wr.setRow (w.heap.size + 1 + 1) (U Z) = Wz := ⟨_, rfl⟩
            have gz : Wz.heap[w.heap.size + 1 + 1]? = some (.cells (U Z) 31 (0, 0)) := by rw [← hWz]; exact setRow_heap _ _ _ _ _ _ hst.out.d4
            have bz : Below w.heap.size w Wz := by rw [← hWz]; exact below_setRow _ _ hst.out.bel (by omega)
            rw [hWz]
            have hrv := run_loadVar_row (P := Try.prog) Wz (w.heap.size + 1 + 1) 31 31 (U Z) (0, 0) _ gz Try.underlying31 rfl HSZ.out
            have HRV := Lib.hid hrv
            clear hWz hrv gz
            try simp only [Act.put, List.setIfInBounds_toArray, List.set_cons_zero, List.set_cons_succ]
            go_wp2
            have hrv := HRV.out
            exact bodyPost_ret (v := .agg (U Z)) (by simp [results, Try.results28, asAddr, hrv]) rfl ⟨by rw [HZ.out], bz⟩
end Go.Proofs.Ytjaakhjfpigdfaa
