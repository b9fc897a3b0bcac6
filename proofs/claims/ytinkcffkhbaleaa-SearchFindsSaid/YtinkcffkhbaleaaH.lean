import Derived.Test.YtinkcffkhbaleaaG
import Derived.Test.YtinkcffkhbaleaaY
import Derived.Deep.MidRow
/-! Rows of digests, and where they part: the plain part, and the document's search. -/
namespace Go.Proofs.Ytinkcffkhbaleaa
open Go.RowKit
set_option linter.unusedVariables false
set_option linter.unusedSimpArgs false

/-- A digest's cells. -/
def digV (d : List (BitVec 8)) : List Value := (d.map fun x => (x.toNat : Int)).map (Value.int .u8)
theorem digV_len (d : List (BitVec 8)) : (digV d).length = d.length := by simp [digV]
/-- A row of digests that may be read. -/
def RdD (w : World) (A : Option Addr) (l : List (List (BitVec 8))) : Prop :=
  l.length ≤ 9223372036854775807 ∧ ∀ j (h : j < l.length), l[j].length = 32 ∧ ∃ ad, A = some ad ∧ ∀ i v, (digV l[j])[i]? = some v → w.cell? ((ad.add (j * 32)).add i) = some v
theorem RdD.below {w w' : World} {A : Option Addr} {l : List (List (BitVec 8))} (h : RdD w A l) (hb : Below w.heap.size w w') : RdD w' A l :=
  ⟨h.1, fun j hj => by
    obtain ⟨h32, ad, e, hc⟩ := h.2 j hj
    refine ⟨h32, ad, e, fun i v hv => ?_⟩
    have := hc i v hv
    exact (hb.cell (World.block_lt_of_cell? w _ this)).trans this⟩
theorem RdD.take {w : World} {A : Option Addr} {l : List (List (BitVec 8))} (h : RdD w A l) (n : Nat) : RdD w A (l.take n) :=
  ⟨by have := h.1; rw [List.length_take]; omega, fun j hj => by
    rw [List.length_take] at hj
    have := h.2 j (by omega)
    rw [List.getElem_take]
    exact this⟩
theorem run_loadAt_any {P : Program} (w : World) (ad : Addr) (ty : TypeId) (cs : List Value) (d : TypeDesc) (hc : ∀ j v, cs[j]? = some v → w.cell? (ad.add j) = some v)
    (hu : P.underlying ty = some d) (hd : d.isRow = true) (hi : (P.info? ty).map (·.size) = some cs.length) :
    (Instr.loadAt ty (.pointer (some ad))).run P w = .ok (.agg cs.toArray) w := by
  have hl : (loadCells ad cs.length).run P w = .ok cs.toArray w := run_loadCells_list (P := P) w ad cs hc
  have hv : (loadVar ty ad).run P w = .ok (.agg cs.toArray) w := by
    cases hq : P.info? ty with
    | none => simp [hq] at hi
    | some i =>
      have hs : i.size = cs.length := by simpa [hq] using hi
      have hagg : (isAgg ty).run P w = .ok true w := by
        unfold isAgg
        rw [Sem.run_bind, run_underlying hu w]
        cases d <;> simp_all
      simp [loadVar, Sem.run_bind, hagg, sizeOf, typeInfo, hq, hs, hl]
  simp only [Instr.loadAt, Instr.sureAddr, Sem.run_bind, Sem.run_pure, Result.andThen_ok, hv]
theorem RdD.load {w : World} {A : Option Addr} {l : List (List (BitVec 8))} (h : RdD w A l) (j : Nat) (hj : j < l.length) : ∃ ad, A = some ad ∧ (Instr.loadAt 47 (.pointer (some (ad.add (j * 32))))).run Try.prog w = .ok (.agg (digV l[j]).toArray) w := by
  obtain ⟨h32, ad, e, hc⟩ := h.2 j hj
  exact ⟨ad, e, run_loadAt_any w _ 47 _ _ hc Try.underlying47 rfl (by rw [digV_len, h32]; kernel_rfl)⟩
theorem eq_digs (x y : List (BitVec 8)) (hx : x.length = 32) (hy : y.length = 32) (w : World) : (Op.equalIn 10000 47 (.agg (digV x).toArray) (.agg (digV y).toArray)).run Try.prog w = .ok (x == y) w := by
  obtain ⟨i0, hi⟩ := Option.isSome_iff_exists.1 (show (Try.prog.info? 5).isSome = true by kernel_rfl)
  have h := run_eq_ints (P := Try.prog) (t := 47) (e := 5) (n := 32) (k := .u8) (i := i0) Try.underlying47 hi Try.underlying5 (by kernel_rfl) (by kernel_rfl) (x.map fun x => (x.toNat : Int)) (y.map fun x => (x.toNat : Int)) (by simp [hx]) (by simp [hy]) w
  unfold digV
  rw [h]
  congr 1
  rw [Bool.eq_iff_iff, beq_iff_eq, beq_iff_eq]
  constructor
  · intro h
    apply List.ext_getElem (by omega)
    intro i h1 h2
    have := congrArg (fun l => l[i]?) h
    simp [List.getElem?_eq_getElem h1, List.getElem?_eq_getElem h2] at this
    exact BitVec.eq_of_toNat_eq (by omega)
  · rintro rfl; rfl
theorem fewd_any (A : Option Addr) (n c : Nat) (w : World) (hl : n ≤ c) (hm : n ≤ 9223372036854775807) :
    Calls Try.prog 22 #[.slice A n c] w fun e w' => e = .returned (.slice A (min 3000 n) c) ∧ w = w' := by
  by_cases hlt : 3000 < n
  · rw [Nat.min_eq_left (by omega)]
    go_enter Try.func22, Try.ntmps22
    go_wp2
    go_ret
    exact ⟨rfl, rfl⟩
  · rw [Nat.min_eq_right (by omega)]
    go_enter Try.func22, Try.ntmps22
    go_wp2
    go_ret
    exact ⟨rfl, rfl⟩

/-! ### The search, plainly -/
/-- One question on: the span, and how many questions that took. -/
def stepT (al : Int → Bool) (s : Int × Int × Nat) : Int × Int × Nat :=
  match askS s.1 s.2.1 with
  | some q => ((toldS s.1 s.2.1 q (al q)).1, (toldS s.1 s.2.1 q (al q)).2, s.2.2 + 1)
  | none => s
def goT (al : Int → Bool) : Nat → Int × Int × Nat → Int × Int × Nat
  | 0, s => s
  | f + 1, s => goT al f (stepT al s)
/-- s goes on to T, and ends there. -/
def Ends (al : Int → Bool) (s T : Int × Int × Nat) : Prop := (∃ f, goT al f s = T) ∧ askS T.1 T.2.1 = none
theorem goT_none (al : Int → Bool) (s : Int × Int × Nat) (h : askS s.1 s.2.1 = none) : ∀ f, goT al f s = s
  | 0 => rfl
  | f + 1 => by
    have e : stepT al s = s := by unfold stepT; rw [h]
    rw [goT, e]; exact goT_none al s h f
theorem Ends.step {al : Int → Bool} {s T : Int × Int × Nat} (h : Ends al s T) (hs : askS s.1 s.2.1 ≠ none) : Ends al (stepT al s) T := by
  obtain ⟨⟨f, hf⟩, ht⟩ := h
  cases f with
  | zero =>
    have : s = T := hf
    subst this
    exact absurd ht hs
  | succ f => exact ⟨⟨f, hf⟩, ht⟩
theorem Ends.done {al : Int → Bool} {s T : Int × Int × Nat} (h : Ends al s T) (hs : askS s.1 s.2.1 = none) : s = T := by
  obtain ⟨⟨f, hf⟩, ht⟩ := h
  rw [goT_none al s hs] at hf
  exact hf
theorem askS_some {lo hi q : Int} (h : askS lo hi = some q) : okS lo hi ∧ hi ≠ lo + 1 ∧ q = lo + (hi - lo).tdiv 2 := by
  unfold askS at h
  split at h
  · rename_i hc
    exact ⟨hc.1, hc.2, by cases h; rfl⟩
  · cases h
theorem askS_none {lo hi : Int} (h : askS lo hi = none) (ho : okS lo hi) : hi = lo + 1 := by
  unfold askS at h
  split at h
  · cases h
  · rename_i hc
    exact Classical.byContradiction fun h1 => hc ⟨ho, h1⟩
/-- How many questions there may still be. -/
def leftT (s : Int × Int × Nat) : Nat := mostN (s.2.1 - s.1).toNat
theorem stepT_some {al : Int → Bool} {s : Int × Int × Nat} {q : Int} (h : askS s.1 s.2.1 = some q) :
    ∃ lo hi, toldS s.1 s.2.1 q (al q) = (lo, hi) ∧ stepT al s = (lo, hi, s.2.2 + 1) ∧ okS lo hi ∧ leftT (stepT al s) + 1 ≤ leftT s := by
  obtain ⟨ho, h1, hq⟩ := askS_some h
  obtain ⟨lo, hi, ht, hok, hm⟩ := next_most s.1 s.2.1 q (al q) ho h1 hq
  have e : stepT al s = (lo, hi, s.2.2 + 1) := by unfold stepT; rw [h]; simp only [ht]
  exact ⟨lo, hi, ht, e, hok, by rw [e]; exact hm⟩
/-- It ends. -/
theorem ends_some (al : Int → Bool) : ∀ (m : Nat) (s : Int × Int × Nat), leftT s ≤ m → ∃ T, Ends al s T
  | m, s, hm => by
    cases h : askS s.1 s.2.1 with
    | none => exact ⟨s, ⟨0, rfl⟩, h⟩
    | some q =>
      obtain ⟨lo, hi, _, _, _, hl⟩ := stepT_some (al := al) h
      cases m with
      | zero => omega
      | succ m =>
        obtain ⟨T, ⟨f, hf⟩, ht⟩ := ends_some al m (stepT al s) (by omega)
        exact ⟨T, ⟨f + 1, hf⟩, ht⟩
/-- What holds along the way: the span may be; at its foot they are alike, or it is 0; at its head unlike, or it is the first number that one of both lacks. -/
def Edge (al : Int → Bool) (m : Int) (s : Int × Int × Nat) : Prop := okS s.1 s.2.1 ∧ s.2.1 ≤ m + 1 ∧ (s.1 = 0 ∨ al s.1 = true) ∧ (s.2.1 = m + 1 ∨ al s.2.1 = false)
theorem Edge.step {al : Int → Bool} {m : Int} {s : Int × Int × Nat} (h : Edge al m s) : Edge al m (stepT al s) := by
  cases hq : askS s.1 s.2.1 with
  | none => rw [show stepT al s = s by unfold stepT; rw [hq]]; exact h
  | some q =>
    obtain ⟨ho, h1, hqe⟩ := askS_some hq
    obtain ⟨u, u1, u2, _⟩ := told_up_most s.1 s.2.1 q ho h1 hqe
    obtain ⟨d, _⟩ := told_down_most s.1 s.2.1 q ho h1 hqe
    have f : okS s.1 s.2.1 ∧ s.1 < q ∧ q < s.2.1 := ⟨ho, u1, u2⟩
    obtain ⟨a, b, c, e⟩ := h
    unfold stepT
    rw [hq]
    simp only [toldS, if_pos f]
    cases hal : al q with
    | true => exact ⟨u, b, Or.inr hal, e⟩
    | false => exact ⟨d, by simp; omega, c, Or.inr hal⟩
theorem Edge.go {al : Int → Bool} {m : Int} : ∀ (f : Nat) (s : Int × Int × Nat), Edge al m s → Edge al m (goT al f s)
  | 0, _, h => h
  | f + 1, s, h => Edge.go f _ h.step
theorem Edge.ends {al : Int → Bool} {m : Int} {s T : Int × Int × Nat} (h : Edge al m s) (he : Ends al s T) : Edge al m T ∧ T.2.1 = T.1 + 1 := by
  obtain ⟨⟨f, rfl⟩, ht⟩ := he
  have := Edge.go f s h
  exact ⟨this, askS_none ht this.1⟩
end Go.Proofs.Ytinkcffkhbaleaa
