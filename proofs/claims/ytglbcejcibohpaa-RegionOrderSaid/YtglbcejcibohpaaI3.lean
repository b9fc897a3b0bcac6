import Derived.Test.YtglbcejcibohpaaI2
/-! A range over an iterator, as in I2, whose round's own variables are memory. No program is named here. -/
namespace Go.Proofs.Ytglbcejcibohpaa
open Go.RowKit
set_option linter.unusedVariables false
/-- .. where the round's own variables are memory: the assigning takes the world to wA. -/
theorem range_law3 {σ α : Type} {P : Program} {n : Nat} {g : Operand} {ps : Array Tmp} {assign body : Code} {Q : Exit → Act → World → Prop} {a : Act} {w : World} (h1 : 1 ≤ n)
    {gf : Nat} {lb : Array Value} (hg : a.eval g = .func (.func gf) #[] lb) (eg : ∀ args w, (callFunc gf args).run P w = .ok (.enter gf args) w)
    {encs : α → Array Value} (hps : ∀ x, (encs x).size = ps.size) {I : σ → World → Prop} {ask : σ → Option α} {step : σ → σ} {Fix Stab : World → World → Prop} {s0 : σ} {Start : World → Prop} {End : σ → World → Prop} {Ix : Code → σ → World → Prop}
    (hiter : Iterates2 P (n - 1) gf lb encs I ask step Fix Stab s0 Start End) (hSo : ∀ W W', Stab W W' → KeepsOthers W W')
    (hIs : ∀ s W W', I s W → Stab W W' → I s W') (hXs : ∀ c s W W', Ix c s W → Stab W W' → Ix c s W')
    (hIput : ∀ s W l o o', I s W → w.heap.size ≤ l → W.heap[l]? = some o → o.isCells = false → I s (W.putObj l o')) (hXput : ∀ c s W l o o', Ix c s W → w.heap.size ≤ l → W.heap[l]? = some o → o.isCells = false → Ix c s (W.putObj l o'))
    (hIalloc : ∀ s W o, I s W → o.isCells = false → I s (W.alloc o)) (hFt : ∀ A B C, Fix A B → Fix B C → Fix A C) (hFput : ∀ W l o o', w.heap.size ≤ l → W.heap[l]? = some o → o.isCells = false → Fix W (W.putObj l o')) (hSalloc : ∀ W o, Start W → o.isCells = false → Start (W.alloc o)) (hEput : ∀ s W l o o', End s W → w.heap.size ≤ l → W.heap[l]? = some o → o.isCells = false → End s (W.putObj l o')) (h0 : I s0 w) (hs0 : Start w) (a₁ : α → World → Act) (wA : α → World → World) (hA : ∀ s x W, I s W → ask s = some x → I s (wA x W) ∧ KeepsOthers W (wA x W) ∧ Fix W (wA x W))
    (hassign : ∀ (l : Nat) (x : α) (W : World) (K : Act → World → Prop), K (a₁ x W) (wA x W) →
      assign.wpIn (Fence.wide.inRound l) (n - 1 - 1) P (Exit.then K (fun _ _ _ => False)) { tmps := (ps.zip (encs x)).foldl (fun t (p, v) => t.setIfInBounds p v) a.tmps, defers := [] } W)
    (hbody : ∀ (l : Nat) (s : σ) (x : α) (V W : World), (∀ (k : Nat) (o : Obj), (wA x V).heap[k]? = some o → o.isCells = true → W.heap[k]? = some o) → I s W → ask s = some x → body.wpIn (Fence.wide.inRound l) (n - 1 - 1) P (RPost2 I Fix Ix s (step s) W) (a₁ x V) W)
    (hdone : ∀ (D : Nat) (s : σ) (W : World), ask s = none → I s W → End s W → w.heap.size ≤ D → W.heap[D]? = some (.deferred (some [])) → Q .normal { a with defers := { target := .collected D, args := #[] } :: a.defers } W)
    (hstop : ∀ (D : Nat) (c : Code) (s : σ) (W : World), Ix c s W → w.heap.size ≤ D → W.heap[D]? = some (.deferred (some [])) → c.wpIn Fence.wide n P Q { a with defers := { target := .collected D, args := #[] } :: a.defers } W) :
    (Code.rangeFunc g ps assign body).wpIn Fence.wide n P Q a w := by
  refine wpIn_rangeFunc fun fn _ => ?_
  -- the record, ready; behind it the block for the rounds' deferred calls
  let rec_ : LoopState → Option Code → Loop := fun st pe => { state := st, pending := pe, fn, tmps := a.tmps, params := ps, assign, body, defers := w.heap.size }
  let W1 : World := (w.alloc (.deferred (some []))).alloc (.loop (rec_ .ready none))
  have hs1 : (w.alloc (.deferred (some []))).heap.size = w.heap.size + 1 := size_alloc _ _
  have hrec : W1.heap[w.heap.size + 1]? = some (.loop (rec_ .ready none)) := heap_new _ _ _ hs1.symm
  have hdef : W1.heap[w.heap.size]? = some (.deferred (some [])) := heap_old _ trivial (heap_new w _ _ rfl)
  have hI1 : I s0 W1 := hIalloc _ _ _ (hIalloc _ _ _ h0 rfl) rfl
  have hSt1 : Start W1 := hSalloc _ _ (hSalloc _ _ hs0 rfl) rfl
  refine ⟨w.heap.size + 1, [{ target := .collected w.heap.size, args := #[] }], W1, { target := .fn (.func gf) lb, args := #[.func (.yield (w.heap.size + 1)) #[] #[]] }, W1, gf,
    #[.func (.yield (w.heap.size + 1)) #[] #[]] ++ lb, W1, run_enterLoop_outer _ _ _ _ _, ?_, fun _ _ => trivial, ?_, fun _ => h1, ?_⟩
  · simp only [resolve, hg]
    simp [go_sem]
  · simp [invoke, go_sem, eg]
  have keep : ∀ {W W' : World} {st : LoopState} {pe : Option Code}, KeepsOthers W W' → W.heap[w.heap.size + 1]? = some (.loop (rec_ st pe)) ∧ W.heap[w.heap.size]? = some (.deferred (some [])) →
      W'.heap[w.heap.size + 1]? = some (.loop (rec_ st pe)) ∧ W'.heap[w.heap.size]? = some (.deferred (some [])) := fun hk h => ⟨hk.same _ _ h.1 rfl, hk.same _ _ h.2 rfl⟩
  have putrec : ∀ {W : World} {st : LoopState} {pe : Option Code} (st' : LoopState) (pe' : Option Code), W.heap[w.heap.size + 1]? = some (.loop (rec_ st pe)) ∧ W.heap[w.heap.size]? = some (.deferred (some [])) →
      (W.putObj (w.heap.size + 1) (.loop (rec_ st' pe'))).heap[w.heap.size + 1]? = some (.loop (rec_ st' pe')) ∧ (W.putObj (w.heap.size + 1) (.loop (rec_ st' pe'))).heap[w.heap.size]? = some (.deferred (some [])) :=
    fun st' pe' h => ⟨World.putObj_heap_same (Array.getElem?_eq_some_iff.1 h.1).1, (World.putObj_heap_other (by omega)).trans h.2⟩
  refine (hiter (w.heap.size + 1)
    (fun s W => I s W ∧ W.heap[w.heap.size + 1]? = some (.loop (rec_ .ready none)) ∧ W.heap[w.heap.size]? = some (.deferred (some [])))
    (fun s W => ∃ c, Ix c s W ∧ W.heap[w.heap.size + 1]? = some (.loop (rec_ .done (some c))) ∧ W.heap[w.heap.size]? = some (.deferred (some [])))
    W1 (fun _ _ h => h.1) (fun s W W' h hS => ⟨hIs _ _ _ h.1 hS, keep (hSo _ _ hS) h.2⟩) (fun s W W' ⟨c, h, h2⟩ hS => ⟨c, hXs _ _ _ _ h hS, keep (hSo _ _ hS) h2⟩) ?_ ⟨hI1, hrec, hdef⟩ hSt1).mono ?_
  · -- one round
    rintro s x W ⟨hi, hb⟩ hask
    refine ⟨fn, _, assign, body, run_yield (P := P) (args := encs x) hb.1 (hps x), roundIn_of_wpIn trivial (hassign _ x W _ ⟨_, run_beginRound (keep (hA s x W hi hask).2.1 hb).1 rfl, ?_⟩)⟩
    obtain ⟨hiA, hkA, hfA⟩ := hA s x W hi hask
    have hbA := keep hkA hb
    have hb2 := putrec .busy none hbA
    have hi2 : I s ((wA x W).putObj (w.heap.size + 1) (.loop (rec_ .busy none))) := hIput _ _ _ _ _ hiA (by omega) hbA.1 rfl
    refine wpIn_mono (hbody _ s x W _ (fun k o hk ho => ?hcells) hi2 hask) ?_
    case hcells =>
      rw [World.putObj_heap_other]
      · exact hk
      · rintro rfl
        rw [hbA.1] at hk
        cases hk
        cases ho
    rintro e a3 W3 hp
    cases e with
    | normal =>
      obtain ⟨hk, hi3, hf3⟩ := hp
      have hb3 := keep hk hb2
      exact ⟨_, _, run_endRound none hb3.1, .inl ⟨rfl, ⟨hIput _ _ _ _ _ hi3 (by omega) hb3.1 rfl, putrec .ready none hb3⟩, hFt _ _ _ hfA (hFt _ _ _ (hFput _ _ _ _ (by omega) hbA.1 rfl) (hFt _ _ _ hf3 (hFput _ _ _ _ (by omega) hb3.1 rfl)))⟩⟩
    | ret =>
      obtain ⟨hk, hi3⟩ := hp
      have hb3 := keep hk hb2
      exact ⟨_, _, run_endRound (some .ret) hb3.1, .inr ⟨rfl, .ret, hXput _ _ _ _ _ _ hi3 (by omega) hb3.1 rfl, putrec .done (some .ret) hb3⟩⟩
    | exit id =>
      obtain ⟨hk, hi3⟩ := hp
      have hb3 := keep hk hb2
      exact ⟨_, _, run_endRound (some (.exit id)) hb3.1, .inr ⟨rfl, .exit id, hXput _ _ _ _ _ _ hi3 (by omega) hb3.1 rfl, putrec .done (some (.exit id)) hb3⟩⟩
    | goto t =>
      obtain ⟨hk, hi3⟩ := hp
      have hb3 := keep hk hb2
      exact ⟨_, _, run_endRound (some (.goto t)) hb3.1, .inr ⟨rfl, .goto t, hXput _ _ _ _ _ _ hi3 (by omega) hb3.1 rfl, putrec .done (some (.goto t)) hb3⟩⟩
    | panic ch => exact hp.elim
    | outgrown => exact hp.elim
  · -- behind the iterator
    rintro e W2 ⟨⟨v, rfl⟩, (⟨s, hask, ⟨hi, hb⟩, hend⟩ | ⟨s, c, hx, hb⟩)⟩
    · refine ⟨none, _, run_endLoop hb.1 (by simp [rec_]), ?_⟩
      have hb3 := putrec .exhausted none hb
      exact hdone _ s _ hask (hIput _ _ _ _ _ hi (by omega) hb.1 rfl) (hEput _ _ _ _ _ hend (by omega) hb.1 rfl) (Nat.le_refl _) hb3.2
    · refine ⟨some c, _, run_endLoop hb.1 (by simp [rec_]), ?_⟩
      have hb3 := putrec .exhausted (some c) hb
      exact hstop _ c s _ (hXput _ _ _ _ _ _ hx (by omega) hb.1 rfl) (Nat.le_refl _) hb3.2

end Go.Proofs.Ytglbcejcibohpaa
