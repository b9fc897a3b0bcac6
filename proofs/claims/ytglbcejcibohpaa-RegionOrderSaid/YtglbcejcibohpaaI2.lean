import Derived.Test.YtglbcejcibohpaaY
/-! A range over an iterator that writes cells of its own: as in I, but a round says besides that it leaves the iterator's own cells as they were (Fix), and the iterator may write these (Stab says what it leaves). No program is named here. -/
namespace Go.Proofs.Ytglbcejcibohpaa
open Go.RowKit
set_option linter.unusedVariables false

/-- How a round may be left. -/
def RPost2 {σ : Type} (I : σ → World → Prop) (Fix : World → World → Prop) (Ix : Code → σ → World → Prop) (s s' : σ) (W : World) : Exit → Act → World → Prop
  | .normal, _, W' => KeepsOthers W W' ∧ I s' W' ∧ Fix W W'
  | .ret, _, W' => KeepsOthers W W' ∧ Ix .ret s W'
  | .exit id, _, W' => KeepsOthers W W' ∧ Ix (.exit id) s W'
  | .goto t, _, W' => KeepsOthers W W' ∧ Ix (.goto t) s W'
  | .panic _, _, _ => False
  | .outgrown, _, _ => False

/-- What is owed of an iterator: whatever J and Jx the caller keeps, if J tells I and both abide the iterator's own doings, it goes from s0 on, asks what 'ask' tells, and ends where 'ask' tells nothing or a round has said no. -/
def Iterates2 {σ α : Type} (P : Program) (n gf : Nat) (lb : Array Value) (encs : α → Array Value) (I : σ → World → Prop) (ask : σ → Option α) (step : σ → σ) (Fix Stab : World → World → Prop) (s0 : σ) (Start : World → Prop) (End : σ → World → Prop) : Prop :=
  ∀ (l : Nat) (J Jx : σ → World → Prop) (W : World), (∀ s W, J s W → I s W) → (∀ s W W', J s W → Stab W W' → J s W') → (∀ s W W', Jx s W → Stab W W' → Jx s W') →
    (∀ s x W1, J s W1 → ask s = some x → YieldAt Fence.wide (n - 1) P l (encs x) W1 fun e W' => (e = .returned (.bool true) ∧ J (step s) W' ∧ Fix W1 W') ∨ (e = .returned (.bool false) ∧ Jx s W')) →
    J s0 W → Start W → CallsIn Fence.wide n P gf (#[.func (.yield l) #[] #[]] ++ lb) W fun e W' => (∃ v, e = .returned v) ∧ ((∃ s, ask s = none ∧ J s W' ∧ End s W') ∨ ∃ s, Jx s W')

theorem range_law2 {σ α : Type} {P : Program} {n : Nat} {g : Operand} {ps : Array Tmp} {assign body : Code} {Q : Exit → Act → World → Prop} {a : Act} {w : World} (h1 : 1 ≤ n)
    {gf : Nat} {lb : Array Value} (hg : a.eval g = .func (.func gf) #[] lb) (eg : ∀ args w, (callFunc gf args).run P w = .ok (.enter gf args) w)
    {encs : α → Array Value} (hps : ∀ x, (encs x).size = ps.size) {I : σ → World → Prop} {ask : σ → Option α} {step : σ → σ} {Fix Stab : World → World → Prop} {s0 : σ} {Start : World → Prop} {End : σ → World → Prop} {Ix : Code → σ → World → Prop}
    (hiter : Iterates2 P (n - 1) gf lb encs I ask step Fix Stab s0 Start End) (hSo : ∀ W W', Stab W W' → KeepsOthers W W')
    (hIs : ∀ s W W', I s W → Stab W W' → I s W') (hXs : ∀ c s W W', Ix c s W → Stab W W' → Ix c s W')
    (hIput : ∀ s W l o o', I s W → w.heap.size ≤ l → W.heap[l]? = some o → o.isCells = false → I s (W.putObj l o')) (hXput : ∀ c s W l o o', Ix c s W → w.heap.size ≤ l → W.heap[l]? = some o → o.isCells = false → Ix c s (W.putObj l o'))
    (hIalloc : ∀ s W o, I s W → o.isCells = false → I s (W.alloc o)) (hFt : ∀ A B C, Fix A B → Fix B C → Fix A C) (hFput : ∀ W l o o', w.heap.size ≤ l → W.heap[l]? = some o → o.isCells = false → Fix W (W.putObj l o')) (hSalloc : ∀ W o, Start W → o.isCells = false → Start (W.alloc o)) (hEput : ∀ s W l o o', End s W → w.heap.size ≤ l → W.heap[l]? = some o → o.isCells = false → End s (W.putObj l o')) (h0 : I s0 w) (hs0 : Start w) (a₁ : α → Act)
    (hassign : ∀ (l : Nat) (x : α) (W : World) (K : Act → World → Prop), K (a₁ x) W →
      assign.wpIn (Fence.wide.inRound l) (n - 1 - 1) P (Exit.then K (fun _ _ _ => False)) { tmps := (ps.zip (encs x)).foldl (fun t (p, v) => t.setIfInBounds p v) a.tmps, defers := [] } W)
    (hbody : ∀ (l : Nat) (s : σ) (x : α) (W : World), I s W → ask s = some x → body.wpIn (Fence.wide.inRound l) (n - 1 - 1) P (RPost2 I Fix Ix s (step s) W) (a₁ x) W)
    (hdone : ∀ (D : Nat) (s : σ) (W : World), ask s = none → I s W → End s W → w.heap.size ≤ D → W.heap[D]? = some (.deferred (some [])) → Q .normal { a with defers := { target := .collected D, args := #[] } :: a.defers } W)
    (hstop : ∀ (D : Nat) (c : Code) (s : σ) (W : World), Ix c s W → w.heap.size ≤ D → W.heap[D]? = some (.deferred (some [])) → c.wpIn Fence.wide n P Q { a with defers := { target := .collected D, args := #[] } :: a.defers } W) :
    (Code.rangeFunc g ps assign body).wpIn Fence.wide n P Q a w := by
  refine wpIn_rangeFunc fun fn _ => ?_
  -- the record, ready; behind it the block for the rounds' deferred calls
  let rec_ : LoopState → Option Code → Loop := fun st pe => { state := st, pending := pe, fn, tmps := a.tmps, params := ps, assign, body, defers := w.heap.size }
  let W1 : World := (w.alloc (.deferred (some []))).alloc (.loop (rec_ .ready none))
  have hs1 : (w.alloc (.deferred (some []))).heap.size = w.heap.size + 1 := size_alloc _ _
  have hrec : W1.heap[w.heap.size + 1]? = some (.loop (rec_ .ready none)) := heap_new _ _ _ hs1.symm
  have hdef : W1.heap[w.heap.size]? = some (.deferred (some [])) := heap_old _ trivial (heap_new w _ _ rfl)
  have hI1 : I s0 W1 := hIalloc _ _ _ (hIalloc _ _ _ h0 rfl) rfl
  have hSt1 : Start W1 := hSalloc _ _ (hSalloc _ _ hs0 rfl) rfl
  refine ⟨w.heap.size + 1, [{ target := .collected w.heap.size, args := #[] }], W1, { target := .fn (.func gf) lb, args := #[.func (.yield (w.heap.size + 1)) #[] #[]] }, W1, gf,
    #[.func (.yield (w.heap.size + 1)) #[] #[]] ++ lb, W1, run_enterLoop_outer _ _ _ _ _, ?_, fun _ _ => trivial, ?_, fun _ => h1, ?_⟩
  · simp only [resolve, hg]
    simp [go_sem]
  · simp [invoke, go_sem, eg]
  have keep : ∀ {W W' : World} {st : LoopState} {pe : Option Code}, KeepsOthers W W' → W.heap[w.heap.size + 1]? = some (.loop (rec_ st pe)) ∧ W.heap[w.heap.size]? = some (.deferred (some [])) →
      W'.heap[w.heap.size + 1]? = some (.loop (rec_ st pe)) ∧ W'.heap[w.heap.size]? = some (.deferred (some [])) := fun hk h => ⟨hk.same _ _ h.1 rfl, hk.same _ _ h.2 rfl⟩
  have putrec : ∀ {W : World} {st : LoopState} {pe : Option Code} (st' : LoopState) (pe' : Option Code), W.heap[w.heap.size + 1]? = some (.loop (rec_ st pe)) ∧ W.heap[w.heap.size]? = some (.deferred (some [])) →
      (W.putObj (w.heap.size + 1) (.loop (rec_ st' pe'))).heap[w.heap.size + 1]? = some (.loop (rec_ st' pe')) ∧ (W.putObj (w.heap.size + 1) (.loop (rec_ st' pe'))).heap[w.heap.size]? = some (.deferred (some [])) :=
    fun st' pe' h => ⟨World.putObj_heap_same (Array.getElem?_eq_some_iff.1 h.1).1, (World.putObj_heap_other (by omega)).trans h.2⟩
  refine (hiter (w.heap.size + 1)
    (fun s W => I s W ∧ W.heap[w.heap.size + 1]? = some (.loop (rec_ .ready none)) ∧ W.heap[w.heap.size]? = some (.deferred (some [])))
    (fun s W => ∃ c, Ix c s W ∧ W.heap[w.heap.size + 1]? = some (.loop (rec_ .done (some c))) ∧ W.heap[w.heap.size]? = some (.deferred (some [])))
    W1 (fun _ _ h => h.1) (fun s W W' h hS => ⟨hIs _ _ _ h.1 hS, keep (hSo _ _ hS) h.2⟩) (fun s W W' ⟨c, h, h2⟩ hS => ⟨c, hXs _ _ _ _ h hS, keep (hSo _ _ hS) h2⟩) ?_ ⟨hI1, hrec, hdef⟩ hSt1).mono ?_
  · -- one round
    rintro s x W ⟨hi, hb⟩ hask
    refine ⟨fn, _, assign, body, run_yield (P := P) (args := encs x) hb.1 (hps x), roundIn_of_wpIn trivial (hassign _ x W _ ⟨_, run_beginRound hb.1 rfl, ?_⟩)⟩
    have hb2 := putrec .busy none hb
    have hi2 : I s (W.putObj (w.heap.size + 1) (.loop (rec_ .busy none))) := hIput _ _ _ _ _ hi (by omega) hb.1 rfl
    refine wpIn_mono (hbody _ s x _ hi2 hask) ?_
    rintro e a3 W3 hp
    cases e with
    | normal =>
      obtain ⟨hk, hi3, hf3⟩ := hp
      have hb3 := keep hk hb2
      exact ⟨_, _, run_endRound none hb3.1, .inl ⟨rfl, ⟨hIput _ _ _ _ _ hi3 (by omega) hb3.1 rfl, putrec .ready none hb3⟩, hFt _ _ _ (hFput _ _ _ _ (by omega) hb.1 rfl) (hFt _ _ _ hf3 (hFput _ _ _ _ (by omega) hb3.1 rfl))⟩⟩
    | ret =>
      obtain ⟨hk, hi3⟩ := hp
      have hb3 := keep hk hb2
      exact ⟨_, _, run_endRound (some .ret) hb3.1, .inr ⟨rfl, .ret, hXput _ _ _ _ _ _ hi3 (by omega) hb3.1 rfl, putrec .done (some .ret) hb3⟩⟩
    | exit id =>
      obtain ⟨hk, hi3⟩ := hp
      have hb3 := keep hk hb2
      exact ⟨_, _, run_endRound (some (.exit id)) hb3.1, .inr ⟨rfl, .exit id, hXput _ _ _ _ _ _ hi3 (by omega) hb3.1 rfl, putrec .done (some (.exit id)) hb3⟩⟩
    | goto t =>
      obtain ⟨hk, hi3⟩ := hp
      have hb3 := keep hk hb2
      exact ⟨_, _, run_endRound (some (.goto t)) hb3.1, .inr ⟨rfl, .goto t, hXput _ _ _ _ _ _ hi3 (by omega) hb3.1 rfl, putrec .done (some (.goto t)) hb3⟩⟩
    | panic ch => exact hp.elim
    | outgrown => exact hp.elim
  · -- behind the iterator
    rintro e W2 ⟨⟨v, rfl⟩, (⟨s, hask, ⟨hi, hb⟩, hend⟩ | ⟨s, c, hx, hb⟩)⟩
    · refine ⟨none, _, run_endLoop hb.1 (by simp [rec_]), ?_⟩
      have hb3 := putrec .exhausted none hb
      exact hdone _ s _ hask (hIput _ _ _ _ _ hi (by omega) hb.1 rfl) (hEput _ _ _ _ _ hend (by omega) hb.1 rfl) (Nat.le_refl _) hb3.2
    · refine ⟨some c, _, run_endLoop hb.1 (by simp [rec_]), ?_⟩
      have hb3 := putrec .exhausted (some c) hb
      exact hstop _ c s _ (hXput _ _ _ _ _ _ hx (by omega) hb.1 rfl) (Nat.le_refl _) hb3.2

/-! ### All but some blocks -/
/-- Of what was there, all but the blocks of L is as it was; and whatever is no cells. -/
structure Besides (L : List Nat) (W W' : World) : Prop where
  os : W'.os = W.os
  tape : W'.tape = W.tape
  output : W'.output = W.output
  block : ∀ k, k < W.heap.size → k ∉ L → W'.heap[k]? = W.heap[k]?
  others : KeepsOthers W W'
theorem Besides.refl (L : List Nat) (W : World) : Besides L W W := ⟨rfl, rfl, rfl, fun _ _ _ => rfl, KeepsOthers.refl W⟩
theorem Besides.size {L : List Nat} {W W' : World} (h : Besides L W W') : W.heap.size ≤ W'.heap.size := h.others.size
theorem Besides.trans {L : List Nat} {A B C : World} (h : Besides L A B) (k : Besides L B C) : Besides L A C :=
  ⟨k.os.trans h.os, k.tape.trans h.tape, k.output.trans h.output, fun i hi hl => (k.block i (Nat.lt_of_lt_of_le hi h.size) hl).trans (h.block i hi hl), h.others.trans k.others⟩
theorem Besides.of_below {L : List Nat} {W W' : World} (h : Below W.heap.size W W') : Besides L W W' := ⟨h.os, h.tape, h.output, fun k hk _ => h.block k hk, others_of_below h⟩
theorem Besides.alloc {L : List Nat} {A W : World} (h : Besides L A W) (o : Obj) : Besides L A (W.alloc o) := h.trans (Besides.of_below ((Below.refl _ _).alloc (Nat.le_refl _) o))
theorem Besides.below {L : List Nat} {A W W' : World} (h : Besides L A W) (hb : Below W.heap.size W W') : Besides L A W' := h.trans (Besides.of_below hb)
theorem Besides.setCell {L : List Nat} {A W : World} (h : Besides L A W) (a : Addr) (ha : a.block ∈ L) (v : Value) : Besides L A (W.setCell a v) :=
  h.trans ⟨rfl, rfl, rfl, fun k _ hl => Below.heap_setCell _ _ _ _ (fun e => hl (e ▸ ha)), KeepsOthers.setCell _ _ _⟩
theorem Besides.to_below {L : List Nat} {W W' : World} (h : Besides L W W') {B : Nat} (hB : ∀ k ∈ L, B ≤ k) (hs : B ≤ W.heap.size) : Below B W W' :=
  ⟨h.os, h.tape, h.output, h.size, fun k hk => h.block k (by omega) (fun hl => by have := hB k hl; omega)⟩
theorem Keeps.besides {K : List (Addr × Value)} {L : List Nat} {W W' : World} (h : Keeps K W) (hb : Besides L W W') (hl : ∀ p ∈ K, p.1.block ∉ L) : Keeps K W' := fun p hp => by
  have e := hb.block p.1.block (h.lt hp) (hl p hp)
  exact ⟨(World.cell?_of_block e).trans (h p hp).1, (World.frozen?_of_block e).trans (h p hp).2⟩
theorem own_besides {w w' : World} {B e size n : Nat} {v : Value} {xs : List Value} {L : List Nat} (h : w.ownsRow B e size v n xs) (hb : Besides L w w') (hl : ∀ g, v.ownBlock = some g → g ∉ L) : w'.ownsRow B e size v n xs := by
  refine ⟨h.1, ?_⟩
  rcases h.2 with hn | ⟨g, cap, cur, rfl, hb1, hgg, rest⟩
  · exact .inl hn
  · refine .inr ⟨g, cap, cur, rfl, hb1, ?_, rest⟩
    rw [hb.block g (Array.getElem?_eq_some_iff.1 hgg).1 (hl g rfl)]
    exact hgg
/-- The cells of L, as they were. -/
def Fixed (L : List Addr) (W W' : World) : Prop := ∀ a ∈ L, W'.cell? a = W.cell? a ∧ W'.frozen? a = W.frozen? a
theorem Fixed.trans {L : List Addr} {A B C : World} (h : Fixed L A B) (k : Fixed L B C) : Fixed L A C := fun a ha => ⟨(k a ha).1.trans (h a ha).1, (k a ha).2.trans (h a ha).2⟩
theorem Fixed.put {L : List Addr} {W : World} {l : Nat} (hl : ∀ a ∈ L, a.block ≠ l) (o : Obj) : Fixed L W (W.putObj l o) := fun a ha => by
  have e : (W.putObj l o).heap[a.block]? = W.heap[a.block]? := World.putObj_heap_other (hl a ha)
  exact ⟨World.cell?_of_block e, World.frozen?_of_block e⟩
theorem Fixed.of_block {L : List Addr} {W W' : World} (h : ∀ a ∈ L, W'.heap[a.block]? = W.heap[a.block]?) : Fixed L W W' := fun a ha => ⟨World.cell?_of_block (h a ha), World.frozen?_of_block (h a ha)⟩
theorem Keeps.fixed {K : List (Addr × Value)} {L : List Addr} {W W' : World} (h : Keeps K W) (hf : Fixed L W W') (hl : ∀ p ∈ K, p.1 ∈ L) : Keeps K W' := fun p hp =>
  ⟨(hf _ (hl p hp)).1.trans (h p hp).1, (hf _ (hl p hp)).2.trans (h p hp).2⟩
theorem Keeps.one {a : Addr} {v : Value} {W : World} (h : W.cell? a = some v) (hf : W.frozen? a = false) : Keeps [(a, v)] W := fun p hp => by
  simp only [List.mem_cons, List.not_mem_nil, or_false] at hp
  subst hp; exact ⟨h, hf⟩
end Go.Proofs.Ytglbcejcibohpaa
