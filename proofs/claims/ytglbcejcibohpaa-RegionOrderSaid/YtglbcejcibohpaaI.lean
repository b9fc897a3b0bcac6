import Derived.Test.YtglbcejcibohpaaK
import Derived.RangeFuncNested
import Derived.RangeFuncBound
import Derived.RangeFuncCalls
import Derived.RangeFuncLeaves
import Derived.Shelf.Abstract
import Derived.Shelf.RegionOpen
import Derived.OwnWalkIn
import Derived.TacticsInMore
import Derived.LoopNIn
import Derived.LoopIn
/-! A range over an iterator that looks at what the rounds leave: the loop's state is a ghost s; the iterator tells what it asks in s, a round takes s to the next one. No program is named here. -/
namespace Go.Proofs.Ytglbcejcibohpaa
open Go.RowKit
set_option linter.unusedVariables false

/-- How a round may be left. -/
def RPost {σ : Type} (I : σ → World → Prop) (Ix : Code → σ → World → Prop) (s s' : σ) (W : World) : Exit → Act → World → Prop
  | .normal, _, W' => KeepsOthers W W' ∧ I s' W'
  | .ret, _, W' => KeepsOthers W W' ∧ Ix .ret s W'
  | .exit id, _, W' => KeepsOthers W W' ∧ Ix (.exit id) s W'
  | .goto t, _, W' => KeepsOthers W W' ∧ Ix (.goto t) s W'
  | .panic _, _, _ => False
  | .outgrown, _, _ => False

/-- What is owed of an iterator: whatever J and Jx the caller keeps, if J tells I and both abide the iterator's own doings, it goes from s0 on, asks what 'ask' tells, and ends where 'ask' tells nothing or a round has said no. -/
def Iterates {σ α : Type} (P : Program) (n gf : Nat) (lb : Array Value) (encs : α → Array Value) (I : σ → World → Prop) (ask : σ → Option α) (step : σ → σ) (Stab : World → World → Prop) (s0 : σ) : Prop :=
  ∀ (l : Nat) (J Jx : σ → World → Prop) (W : World), (∀ s W, J s W → I s W) → (∀ s W W', J s W → Stab W W' → J s W') → (∀ s W W', Jx s W → Stab W W' → Jx s W') →
    (∀ s x W1, J s W1 → ask s = some x → YieldAt Fence.wide (n - 1) P l (encs x) W1 fun e W' => (e = .returned (.bool true) ∧ J (step s) W') ∨ (e = .returned (.bool false) ∧ Jx s W')) →
    J s0 W → CallsIn Fence.wide n P gf (#[.func (.yield l) #[] #[]] ++ lb) W fun e W' => (∃ v, e = .returned v) ∧ ((∃ s, ask s = none ∧ J s W') ∨ ∃ s, Jx s W')

theorem range_law {σ α : Type} {P : Program} {n : Nat} {g : Operand} {ps : Array Tmp} {assign body : Code} {Q : Exit → Act → World → Prop} {a : Act} {w : World} (h1 : 1 ≤ n)
    {gf : Nat} {lb : Array Value} (hg : a.eval g = .func (.func gf) #[] lb) (eg : ∀ args w, (callFunc gf args).run P w = .ok (.enter gf args) w)
    {encs : α → Array Value} (hps : ∀ x, (encs x).size = ps.size) {I : σ → World → Prop} {ask : σ → Option α} {step : σ → σ} {Stab : World → World → Prop} {s0 : σ} {Ix : Code → σ → World → Prop}
    (hiter : Iterates P (n - 1) gf lb encs I ask step Stab s0) (hSo : ∀ W W', Stab W W' → KeepsOthers W W')
    (hIs : ∀ s W W', I s W → Stab W W' → I s W') (hXs : ∀ c s W W', Ix c s W → Stab W W' → Ix c s W')
    (hIput : ∀ s W l o o', I s W → w.heap.size ≤ l → W.heap[l]? = some o → o.isCells = false → I s (W.putObj l o')) (hXput : ∀ c s W l o o', Ix c s W → w.heap.size ≤ l → W.heap[l]? = some o → o.isCells = false → Ix c s (W.putObj l o'))
    (hIalloc : ∀ s W o, I s W → o.isCells = false → I s (W.alloc o)) (h0 : I s0 w) (a₁ : α → Act)
    (hassign : ∀ (l : Nat) (x : α) (W : World) (K : Act → World → Prop), K (a₁ x) W →
      assign.wpIn (Fence.wide.inRound l) (n - 1 - 1) P (Exit.then K (fun _ _ _ => False)) { tmps := (ps.zip (encs x)).foldl (fun t (p, v) => t.setIfInBounds p v) a.tmps, defers := [] } W)
    (hbody : ∀ (l : Nat) (s : σ) (x : α) (W : World), I s W → ask s = some x → body.wpIn (Fence.wide.inRound l) (n - 1 - 1) P (RPost I Ix s (step s) W) (a₁ x) W)
    (hdone : ∀ (D : Nat) (s : σ) (W : World), ask s = none → I s W → w.heap.size ≤ D → W.heap[D]? = some (.deferred (some [])) → Q .normal { a with defers := { target := .collected D, args := #[] } :: a.defers } W)
    (hstop : ∀ (D : Nat) (c : Code) (s : σ) (W : World), Ix c s W → w.heap.size ≤ D → W.heap[D]? = some (.deferred (some [])) → c.wpIn Fence.wide n P Q { a with defers := { target := .collected D, args := #[] } :: a.defers } W) :
    (Code.rangeFunc g ps assign body).wpIn Fence.wide n P Q a w := by
  refine wpIn_rangeFunc fun fn _ => ?_
  -- the record, ready; behind it the block for the rounds' deferred calls
  let rec_ : LoopState → Option Code → Loop := fun st pe => { state := st, pending := pe, fn, tmps := a.tmps, params := ps, assign, body, defers := w.heap.size }
  let W1 : World := (w.alloc (.deferred (some []))).alloc (.loop (rec_ .ready none))
  have hs1 : (w.alloc (.deferred (some []))).heap.size = w.heap.size + 1 := size_alloc _ _
  have hrec : W1.heap[w.heap.size + 1]? = some (.loop (rec_ .ready none)) := heap_new _ _ _ hs1.symm
  have hdef : W1.heap[w.heap.size]? = some (.deferred (some [])) := heap_old _ trivial (heap_new w _ _ rfl)
  have hI1 : I s0 W1 := hIalloc _ _ _ (hIalloc _ _ _ h0 rfl) rfl
  refine ⟨w.heap.size + 1, [{ target := .collected w.heap.size, args := #[] }], W1, { target := .fn (.func gf) lb, args := #[.func (.yield (w.heap.size + 1)) #[] #[]] }, W1, gf,
    #[.func (.yield (w.heap.size + 1)) #[] #[]] ++ lb, W1, run_enterLoop_outer _ _ _ _ _, ?_, fun _ _ => trivial, ?_, fun _ => h1, ?_⟩
  · simp only [resolve, hg]
    simp [go_sem]
  · simp [invoke, go_sem, eg]
  have keep : ∀ {W W' : World} {st : LoopState} {pe : Option Code}, KeepsOthers W W' → W.heap[w.heap.size + 1]? = some (.loop (rec_ st pe)) ∧ W.heap[w.heap.size]? = some (.deferred (some [])) →
      W'.heap[w.heap.size + 1]? = some (.loop (rec_ st pe)) ∧ W'.heap[w.heap.size]? = some (.deferred (some [])) := fun hk h => ⟨hk.same _ _ h.1 rfl, hk.same _ _ h.2 rfl⟩
  have putrec : ∀ {W : World} {st : LoopState} {pe : Option Code} (st' : LoopState) (pe' : Option Code), W.heap[w.heap.size + 1]? = some (.loop (rec_ st pe)) ∧ W.heap[w.heap.size]? = some (.deferred (some [])) →
      (W.putObj (w.heap.size + 1) (.loop (rec_ st' pe'))).heap[w.heap.size + 1]? = some (.loop (rec_ st' pe')) ∧ (W.putObj (w.heap.size + 1) (.loop (rec_ st' pe'))).heap[w.heap.size]? = some (.deferred (some [])) :=
    fun st' pe' h => ⟨World.putObj_heap_same (Array.getElem?_eq_some_iff.1 h.1).1, (World.putObj_heap_other (by omega)).trans h.2⟩
  refine (hiter (w.heap.size + 1)
    (fun s W => I s W ∧ W.heap[w.heap.size + 1]? = some (.loop (rec_ .ready none)) ∧ W.heap[w.heap.size]? = some (.deferred (some [])))
    (fun s W => ∃ c, Ix c s W ∧ W.heap[w.heap.size + 1]? = some (.loop (rec_ .done (some c))) ∧ W.heap[w.heap.size]? = some (.deferred (some [])))
    W1 (fun _ _ h => h.1) (fun s W W' h hS => ⟨hIs _ _ _ h.1 hS, keep (hSo _ _ hS) h.2⟩) (fun s W W' ⟨c, h, h2⟩ hS => ⟨c, hXs _ _ _ _ h hS, keep (hSo _ _ hS) h2⟩) ?_ ⟨hI1, hrec, hdef⟩).mono ?_
  · -- one round
    rintro s x W ⟨hi, hb⟩ hask
    refine ⟨fn, _, assign, body, run_yield (P := P) (args := encs x) hb.1 (hps x), roundIn_of_wpIn trivial (hassign _ x W _ ⟨_, run_beginRound hb.1 rfl, ?_⟩)⟩
    have hb2 := putrec .busy none hb
    have hi2 : I s (W.putObj (w.heap.size + 1) (.loop (rec_ .busy none))) := hIput _ _ _ _ _ hi (by omega) hb.1 rfl
    refine wpIn_mono (hbody _ s x _ hi2 hask) ?_
    rintro e a3 W3 hp
    cases e with
    | normal =>
      obtain ⟨hk, hi3⟩ := hp
      have hb3 := keep hk hb2
      exact ⟨_, _, run_endRound none hb3.1, .inl ⟨rfl, hIput _ _ _ _ _ hi3 (by omega) hb3.1 rfl, putrec .ready none hb3⟩⟩
    | ret =>
      obtain ⟨hk, hi3⟩ := hp
      have hb3 := keep hk hb2
      exact ⟨_, _, run_endRound (some .ret) hb3.1, .inr ⟨rfl, .ret, hXput _ _ _ _ _ _ hi3 (by omega) hb3.1 rfl, putrec .done (some .ret) hb3⟩⟩
    | exit id =>
      obtain ⟨hk, hi3⟩ := hp
      have hb3 := keep hk hb2
      exact ⟨_, _, run_endRound (some (.exit id)) hb3.1, .inr ⟨rfl, .exit id, hXput _ _ _ _ _ _ hi3 (by omega) hb3.1 rfl, putrec .done (some (.exit id)) hb3⟩⟩
    | goto t =>
      obtain ⟨hk, hi3⟩ := hp
      have hb3 := keep hk hb2
      exact ⟨_, _, run_endRound (some (.goto t)) hb3.1, .inr ⟨rfl, .goto t, hXput _ _ _ _ _ _ hi3 (by omega) hb3.1 rfl, putrec .done (some (.goto t)) hb3⟩⟩
    | panic ch => exact hp.elim
    | outgrown => exact hp.elim
  · -- behind the iterator
    rintro e W2 ⟨⟨v, rfl⟩, (⟨s, hask, hi, hb⟩ | ⟨s, c, hx, hb⟩)⟩
    · refine ⟨none, _, run_endLoop hb.1 (by simp [rec_]), ?_⟩
      have hb3 := putrec .exhausted none hb
      exact hdone _ s _ hask (hIput _ _ _ _ _ hi (by omega) hb.1 rfl) (Nat.le_refl _) hb3.2
    · refine ⟨some c, _, run_endLoop hb.1 (by simp [rec_]), ?_⟩
      have hb3 := putrec .exhausted (some c) hb
      exact hstop _ c s _ (hXput _ _ _ _ _ _ hx (by omega) hb.1 rfl) (Nat.le_refl _) hb3.2
end Go.Proofs.Ytglbcejcibohpaa
