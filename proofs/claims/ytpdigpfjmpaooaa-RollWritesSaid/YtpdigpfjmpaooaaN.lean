import Derived.Test.YtpdigpfjmpaooaaL
/-! Rows of chunks of one's own; what a cutter makes of bytes. -/
namespace Go.Proofs.Ytpdigpfjmpaooaa
open Go.RowKit
set_option linter.unusedVariables false
set_option linter.unusedSimpArgs false
theorem info24 : (Try.prog.info? 24).map (fun i => (i.zero, i.size, i.bytes)) = some (some (.slice none 0 0), 1, 24) := by kernel_rfl
/-- A row of chunks, each in memory of one's own. -/
def OwnP (W : World) (base : Nat) (v : Value) (ps : List (List (BitVec 8))) : Prop :=
  ∃ vs, W.ownsRow base 24 1 v ps.length vs ∧ ∀ j (h : j < ps.length), ∃ u, vs[j]? = some u ∧ u ≠ .slice none 0 0 ∧ W.ownsRow base 5 1 u ps[j].length (bytesV ps[j])
theorem OwnP.nil (W : World) (base : Nat) : OwnP W base (.slice none 0 0) [] := ⟨[], World.ownsRow_nil _ _ _ _, fun j h => by simp at h⟩
theorem OwnP.below {W W' : World} {base : Nat} {v : Value} {ps : List (List (BitVec 8))} (h : OwnP W base v ps) (hb : Below W.heap.size W W') : OwnP W' base v ps := by
  obtain ⟨vs, h1, h2⟩ := h
  exact ⟨vs, own_below h1 hb, fun j hj => by obtain ⟨u, a, b, c⟩ := h2 j hj; exact ⟨u, a, b, own_below c hb⟩⟩
theorem OwnP.besides {W W' : World} {base : Nat} {v : Value} {ps : List (List (BitVec 8))} (h : OwnP W base v ps) {L : List Nat} (hb : Besides L W W') (hl : ∀ k ∈ L, k < base) : OwnP W' base v ps := by
  obtain ⟨vs, h1, h2⟩ := h
  have key : ∀ {e size n : Nat} {v : Value} {xs : List Value}, W.ownsRow base e size v n xs → W'.ownsRow base e size v n xs := fun ho => own_besides ho hb (fun g hg hgl => by have := own_base' ho g hg; have := hl g hgl; omega)
  exact ⟨vs, key h1, fun j hj => by obtain ⟨u, a, b, c⟩ := h2 j hj; exact ⟨u, a, b, key c⟩⟩
theorem OwnP.mono {W : World} {base base' : Nat} {v : Value} {ps : List (List (BitVec 8))} (h : OwnP W base v ps) (hb : base' ≤ base) : OwnP W base' v ps := by
  obtain ⟨vs, h1, h2⟩ := h
  exact ⟨vs, own_mono h1 hb, fun j hj => by obtain ⟨u, a, b, c⟩ := h2 j hj; exact ⟨u, a, b, own_mono c hb⟩⟩
/-- It lies as it lay behind a row that grows and is none of it. -/
theorem OwnP.grown {W W' : World} {base : Nat} {v : Value} {ps : List (List (BitVec 8))} (h : OwnP W base v ps) {row : Option Nat} (hg : W.grownBy W' row) (hr : ∀ g, row = some g → W.heap.size ≤ g) : OwnP W' base v ps := by
  obtain ⟨vs, h1, h2⟩ := h
  have key : ∀ {e size n : Nat} {v : Value} {xs : List Value}, W.ownsRow base e size v n xs → W'.ownsRow base e size v n xs := by
    intro e size n v xs ho
    refine ho.kept hg ?_
    cases hv : v.ownBlock with
    | none => exact Or.inl rfl
    | some k =>
      right
      intro e
      have h1 := (ho.lt k hv).2
      have := hr k e.symm
      omega
  exact ⟨vs, key h1, fun j hj => by obtain ⟨u, a, b, c⟩ := h2 j hj; exact ⟨u, a, b, key c⟩⟩
theorem own_ne {w : World} {B B' e e' size size' n n' : Nat} {v v' : Value} {xs xs' : List Value} (h : w.ownsRow B e size v n xs) (h' : w.ownsRow B' e' size' v' n' xs') (hne : e ≠ e') : v.ownBlock = none ∨ v.ownBlock ≠ v'.ownBlock := by
  cases hv : v.ownBlock with
  | none => exact Or.inl rfl
  | some g =>
    right
    intro e2
    obtain ⟨c, fz, hc⟩ := ownsRow_cells h g hv
    obtain ⟨c', fz', hc'⟩ := ownsRow_cells h' g e2.symm
    rw [hc] at hc'
    cases hc'
    exact hne rfl
theorem OwnP.push {W W' : World} {base : Nat} {v v' u : Value} {ps : List (List (BitVec 8))} {q : List (BitVec 8)} {vs : List Value} (h1 : W.ownsRow base 24 1 v ps.length vs) (h2 : ∀ j (h : j < ps.length), ∃ u, vs[j]? = some u ∧ u ≠ .slice none 0 0 ∧ W.ownsRow base 5 1 u ps[j].length (bytesV ps[j]))
    (hq : W.ownsRow base 5 1 u q.length (bytesV q)) (hu : u ≠ .slice none 0 0) (hg : W.grownBy W' v.ownBlock) (h3 : W'.ownsRow base 24 1 v' (ps.length + 1) (vs ++ [u])) : OwnP W' base v' (ps ++ [q]) := by
  have hvs : vs.length = ps.length := by have := h1.1; omega
  refine ⟨vs ++ [u], by simpa using h3, fun j hj => ?_⟩
  rcases Nat.lt_or_ge j ps.length with hlt | hge
  · obtain ⟨x, a, b, c⟩ := h2 j hlt
    refine ⟨x, by rw [List.getElem?_append_left (by omega)]; exact a, b, ?_⟩
    rw [List.getElem_append_left hlt]
    exact c.kept hg (own_ne c h1 (by decide))
  · have hj' : j = ps.length := by simp at hj; omega
    subst hj'
    refine ⟨u, by rw [List.getElem?_append_right (by omega)]; simp [hvs], hu, ?_⟩
    have e : (ps ++ [q])[ps.length]'hj = q := by simp
    rw [e]
    exact hq.kept hg (own_ne hq h1 (by decide))
/-- The chunks that end, and what is left. -/
def splitF (le mo bi : Int) : Nat → List (BitVec 8) → List (List (BitVec 8)) × List (BitVec 8)
  | 0, l => ([], l)
  | f + 1, l => if (nextL le mo bi l 0 0).2 then (l.take (nextL le mo bi l 0 0).1 :: (splitF le mo bi f (l.drop (nextL le mo bi l 0 0).1)).1, (splitF le mo bi f (l.drop (nextL le mo bi l 0 0).1)).2) else ([], l)
theorem next_some (le mo bi : Int) (hok : okC le mo bi) (l : List (BitVec 8)) (h : (nextL le mo bi l 0 0).2 = true) : 1 ≤ (nextL le mo bi l 0 0).1 ∧ (nextL le mo bi l 0 0).1 ≤ l.length := by
  obtain ⟨h1, h2, _⟩ := id hok
  obtain ⟨a, b, c, d, e⟩ := nextL_bounds le mo bi hok l 0 0 (by simp; omega)
  have := (d h).2
  omega
theorem splitF_more (le mo bi : Int) (hok : okC le mo bi) : ∀ (f g : Nat) (l : List (BitVec 8)), l.length ≤ f → l.length ≤ g → splitF le mo bi f l = splitF le mo bi g l
  | 0, 0, _, _, _ => rfl
  | 0, g + 1, l, hf, _ => by
    obtain rfl : l = [] := List.eq_nil_of_length_eq_zero (by omega)
    simp [splitF, nextL]
  | f + 1, 0, l, _, hg => by
    obtain rfl : l = [] := List.eq_nil_of_length_eq_zero (by omega)
    simp [splitF, nextL]
  | f + 1, g + 1, l, hf, hg => by
    unfold splitF
    split
    · rename_i h
      have hp := next_some le mo bi hok l h
      rw [splitF_more le mo bi hok f g _ (by rw [List.length_drop]; omega) (by rw [List.length_drop]; omega)]
    · rfl
def splitE (le mo bi : Int) (l : List (BitVec 8)) : List (List (BitVec 8)) × List (BitVec 8) := splitF le mo bi l.length l
theorem splitE_step (le mo bi : Int) (hok : okC le mo bi) (l : List (BitVec 8)) (h : (nextL le mo bi l 0 0).2 = true) :
    splitE le mo bi l = (l.take (nextL le mo bi l 0 0).1 :: (splitE le mo bi (l.drop (nextL le mo bi l 0 0).1)).1, (splitE le mo bi (l.drop (nextL le mo bi l 0 0).1)).2) := by
  have hp := next_some le mo bi hok l h
  obtain ⟨f, hf⟩ : ∃ f, l.length = f + 1 := ⟨l.length - 1, by omega⟩
  unfold splitE
  rw [hf]
  conv => lhs; unfold splitF
  rw [if_pos h, splitF_more le mo bi hok f _ _ (by rw [List.length_drop]; omega) (Nat.le_refl _)]
theorem splitE_done (le mo bi : Int) (l : List (BitVec 8)) (h : (nextL le mo bi l 0 0).2 = false) : splitE le mo bi l = ([], l) := by
  unfold splitE
  cases l.length with
  | zero => rfl
  | succ f => unfold splitF; rw [if_neg (by rw [h]; decide)]
theorem rdB_block {W W' : World} {A : Option Addr} {l : List (BitVec 8)} (h : RdB W A l) (hb : ∀ ad, A = some ad → W'.heap[ad.block]? = W.heap[ad.block]?) : RdB W' A l :=
  ⟨h.1, fun j hj => by
    obtain ⟨ad, v, e, hc, hr⟩ := h.2 j hj
    refine ⟨ad, v, e, ?_, hr⟩
    have : (ad.add j).block = ad.block := by unfold Addr.add; split <;> rfl
    exact (World.cell?_of_block (by rw [this]; exact hb ad e)).trans hc⟩
end Go.Proofs.Ytpdigpfjmpaooaa
