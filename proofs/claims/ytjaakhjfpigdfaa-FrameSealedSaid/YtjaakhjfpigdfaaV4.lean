import Derived.Test.YtjaakhjfpigdfaaV3
/-! Drawn regions whose operations make memory, and here and there take a row up that another made (append in place): one relation on each operation's result, till it is taken up. -/
namespace Go.Proofs.Ytjaakhjfpigdfaa
open Go.RowKit
set_option linter.unusedVariables false
section
variable {P : Program} {ops : Array Oper} {Q : Exit → Act → World → Prop}
/-- What is taken up is needed by none but the one that takes it up. -/
def useOk (ops : Array Oper) (m : Nat) (gone : Nat → Nat → Bool) : Bool :=
  (List.range m).all fun i' => (List.range m).all fun k => !gone i' k || (List.range m).all fun i => i == i' || !needsB ops i k || needsB ops i' i
theorem use_of {m : Nat} {gone : Nat → Nat → Bool} (h : useOk ops m gone = true) {i i' k : Nat} (hi : i < m) (hi' : i' < m) (hk : k < m) (hn : needsB ops i k = true) (hne : i' ≠ i) (hno : needsB ops i' i = false) : gone i' k = false := by
  unfold useOk at h
  have h1 := List.all_eq_true.1 (List.all_eq_true.1 h i' (List.mem_range.2 hi')) k (List.mem_range.2 hk)
  simp only [Bool.or_eq_true, Bool.not_eq_true'] at h1
  rcases h1 with h1 | h1
  · exact h1
  · have h2 := List.all_eq_true.1 h1 i (List.mem_range.2 hi)
    simp only [Bool.or_eq_true, Bool.not_eq_true', beq_iff_eq] at h2
    rcases h2 with (h2 | h2) | h2
    · exact absurd h2.symm hne
    · rw [hn] at h2; cases h2
    · rw [hno] at h2; cases h2
/-- The step that is asked for operation i. -/
def StepU (P : Program) (ops : Array Oper) (m : Nat) (Q : Exit → Act → World → Prop) (a0 : Act) (w0 : World) (pd : Nat → Value → World → Prop) (gone : Nat → Nat → Bool) (i : Nat) : Prop :=
  ∀ o w b, ops[i]? = some o → Below w0.heap.size w0 w →
    (∀ k t, dstAt ops k = some t → needsB ops i k = true → t < a0.tmps.size → pd k (b.eval (.tmp t)) w) → (∀ t, noDstM ops m t = true → b.eval (.tmp t) = a0.eval (.tmp t)) → b.tmps.size = a0.tmps.size →
    ∀ K : Act → World → Prop, (∀ u w', pd i u w' → (∀ k v, k ≠ i → needsB ops k i = false → gone i k = false → pd k v w → pd k v w') → Below w0.heap.size w w' → K (b.put o.dst u) w') → if Region.wanted o (yielded ops b.tmps) = true then Oper.wp P o b w K Q else K (b.put o.dst undef) w
/-- **The law.** The first m operations come in whatever order, and each one's result is what pd says, till an operation comes that takes it up (gone); then the others, in the text's order. -/
theorem wp_region_use {id : Nat} {a : Act} {w0 : World} (m : Nat) (ds : List (Option Tmp)) (hm : P.follows .mixedOrders = true) (hd : distinctB ops = true) (hb : backG ops = true) (hf : sinkOk ops m = true) (hmn : m ≤ ops.size) (hds : (List.range m).map (dstAt ops) = ds) (pd : Nat → Value → World → Prop)
    (gone : Nat → Nat → Bool) (huse : useOk ops m gone = true)
    (hstep : ∀ i, i < m → StepU P ops m Q a w0 pd gone i)
    (hend : ∀ vs w, (∀ k, k < m → (∀ i, i < m → gone i k = false) → pd k (vs k) w) → Below w0.heap.size w0 w → wpList P ops Q (ops.toList.drop m) (putD vs ds 0 a) w) : (Code.region id ops true).wp P Q a w0 := by
  refine wp_region_any hm ?_
  have key : ∀ (fuel : Nat) (listed : Array Bool) (vs : Nat → Value) (w : World), listed.size = ops.size → listed.count false ≤ fuel → Closed ops (came listed) → (∀ k, came listed k = true → k < m ∧ ((∀ i, came listed i = true → gone i k = false) → pd k (vs k) w)) → Below w0.heap.size w0 w →
      wpAny P .any ops Q fuel listed (putAll ops a (came listed) vs ops.size) w := by
    intro fuel
    induction fuel with
    | zero =>
      intro listed vs w hs hc hcl hJ hbel
      have hall : ∀ j, j < ops.size → came listed j = true := by
        intro j hj
        unfold came
        cases hq : listed.getD j false with
        | true => rfl
        | false =>
          exfalso
          have hl : j < listed.size := by omega
          have h1 : listed[j] = false := by simpa [hl] using hq
          have : false ∈ listed := by rw [← h1]; exact Array.getElem_mem hl
          have := Array.count_pos_iff.2 this
          omega
      have hmn2 : m = ops.size := by
        rcases Nat.lt_or_ge m ops.size with h | h
        · have := (hJ m (hall m h)).1; omega
        · omega
      have hL : ∀ j, j < ops.size → came listed j = decide (j < m) := fun j hj => by rw [hall j hj, hmn2]; simp [hj]
      rw [putAll_first a vs (came listed) hL ops.size (Nat.le_refl _), show min m ops.size = m by omega, hds]
      exact tail_wp hb hf (ops.size - m) m 0 listed _ w rfl (Nat.le_refl _) hmn hs hL (by omega) (hend vs w (fun k hk hg => (hJ k (hall k (by omega))).2 fun i hi => hg i (hJ i hi).1) hbel)
    | succ fuel ih =>
      intro listed vs w hs hc hcl hJ hbel
      by_cases hsat : ∀ j, j < m → came listed j = true
      · have hL : ∀ j, j < ops.size → came listed j = decide (j < m) := by
          intro j hj
          by_cases h : j < m
          · rw [hsat j h]; simp [h]
          · cases hq : came listed j with
            | false => simp [h]
            | true => have := (hJ j hq).1; omega
        rw [putAll_first a vs (came listed) hL ops.size (Nat.le_refl _), show min m ops.size = m by omega, hds]
        have hfu : ops.size - m ≤ fuel + 1 := by
          have h1 : ∀ n, n ≤ ops.size → n - m ≤ (listed.toList.take n).count false := by
            intro n
            induction n with
            | zero => intro _; omega
            | succ n ihn =>
              intro hn
              have h2 := ihn (by omega)
              have hl : n < listed.toList.length := by rw [Array.length_toList]; omega
              rw [List.take_add_one, List.count_append]
              by_cases h3 : n < m
              · omega
              · have h4 : listed.toList[n]? = some false := by
                  have h5 := hL n (by omega)
                  have hls : n < listed.size := by omega
                  unfold came at h5
                  simp [hls, h3] at h5
                  rw [List.getElem?_eq_getElem hl]
                  simpa using h5
                rw [h4]
                simp
                omega
          have h2 := h1 ops.size (Nat.le_refl _)
          rw [List.take_of_length_le (by rw [Array.length_toList]; omega), Array.count_toList] at h2
          omega
        exact tail_wp hb hf (ops.size - m) m (fuel + 1) listed _ w rfl (Nat.le_refl _) hmn hs hL hfu (hend vs w (fun k hk hg => (hJ k (hsat k hk)).2 fun i hi => hg i (hJ i hi).1) hbel)
      · refine ⟨fun hr => ?_, fun i hmem => ?_⟩
        · exfalso
          apply hsat
          intro j hj
          exact all_cameG hb listed hs hr ops.size j (by omega) (by omega)
        · obtain ⟨hfl, o, ho, hafter⟩ := mem_ready.1 hmem
          have hio : i < ops.size := (Array.getElem?_eq_some_iff.1 ho).1
          have hi : i < listed.size := by omega
          have hcf : came listed i = false := by unfold came; simp [hi] at hfl ⊢; exact hfl
          have hneeds : ∀ k, needsB ops i k = true → came listed k = true := by
            intro k hk
            unfold needsB at hk
            rw [ho] at hk
            obtain ⟨j, hj, hq⟩ := Array.any_eq_true.1 hk
            simp only [Bool.and_eq_true, beq_iff_eq] at hq
            rw [← hq.2]
            exact hafter _ (Array.getElem_mem hj) hq.1
          have him : i < m := by
            rcases Nat.lt_or_ge i m with h | h
            · exact h
            · exfalso
              rcases Nat.lt_or_ge m i with h2 | h2
              · have hf' := hf
                unfold sinkOk at hf'
                simp only [Bool.and_eq_true] at hf'
                have h1 := List.all_eq_true.1 hf'.2 i (List.mem_range.2 hio)
                simp only [Bool.or_eq_true, decide_eq_true_eq] at h1
                rcases h1 with h1 | h1
                · omega
                · have := (hJ (i - 1) (hneeds (i - 1) h1)).1
                  omega
              · have e : i = m := by omega
                subst e
                exact hsat (fun j hj => head_came hf hcl hneeds i j (by omega) hj)
          have hdst : dstAt ops i = o.dst := by unfold dstAt; rw [ho]; rfl
          have hts := tmps_putAll ops a (came listed) vs ops.size
          refine wpOp_step ho fun K' hK => ?_
          refine hstep i him o w _ ho hbel (fun k t hk hnk ht => ?_) (fun t ht => eval_stoodL _ _ _ _ _ (fun j _ hLj => by have := List.all_eq_true.1 ht j (List.mem_range.2 (hJ j hLj).1); simpa using this)) hts K' fun u w' hpd hkeep hb' => ?_
          · have hk2 : k < ops.size := by
              rcases Nat.lt_or_ge k ops.size with h | h
              · exact h
              · unfold dstAt at hk; rw [Array.getElem?_eq_none h] at hk; cases hk
            rw [eval_came hd a (came listed) vs k t hk2 hk (hneeds k hnk) ht ops.size (Nat.le_refl _) hk2]
            exact (hJ k (hneeds k hnk)).2 fun i' hi' => use_of huse him (hJ i' hi').1 (hJ k (hneeds k hnk)).1 hnk (fun e => by subst e; rw [hcf] at hi'; cases hi') (by cases hq : needsB ops i' i with
              | false => rfl
              | true => have := hcl i' i hi' hq; rw [hcf] at this; cases this)
          · refine hK _ _ ?_
            rw [← hdst, put_all hd a (came listed) vs i u hio hcf, ← came_set listed i hi]
            refine ih _ _ _ (by simp [hs]) ?_ ?_ ?_ (hbel.trans hb')
            · have h1 : listed[i] = false := by simpa [hi] using hfl
              have h2 : (listed.setIfInBounds i true).count false = listed.count false - 1 := by
                rw [Array.setIfInBounds, dif_pos hi, Array.count_set]
                simp [h1]
              omega
            · intro k j hk hnj
              rw [came_set listed i hi] at hk ⊢
              by_cases e : k = i
              · subst e
                by_cases e2 : j = k
                · subst e2; exact upd_same _ _ _
                · rw [upd_other _ _ e2]; exact hneeds j hnj
              · rw [upd_other _ _ e] at hk
                by_cases e2 : j = i
                · subst e2; exact upd_same _ _ _
                · rw [upd_other _ _ e2]; exact hcl k j hk hnj
            · intro k hk
              rw [came_set listed i hi] at hk
              by_cases e : k = i
              · subst e; rw [upd_same]; exact ⟨him, fun _ => hpd⟩
              · rw [upd_other _ _ e] at hk ⊢
                refine ⟨(hJ k hk).1, fun hg => hkeep k _ e (by cases hq : needsB ops k i with
                  | false => rfl
                  | true => have := hcl k i hk hq; rw [hcf] at this; cases this) ?_ ((hJ k hk).2 fun i' hi' => ?_)⟩
                · have := hg i; rw [came_set listed i hi, upd_same] at this; exact this rfl
                · have := hg i'
                  rw [came_set listed i hi] at this
                  by_cases e3 : i' = i
                  · subst e3; rw [hcf] at hi'; cases hi'
                  · rw [upd_other _ _ e3] at this; exact this hi'
  have hc0 : came (Array.replicate ops.size false) = fun _ => false := by
    funext j
    unfold came
    rcases Nat.lt_or_ge j ops.size with h | h <;> simp [h]
  have ha : putAll ops a (fun _ => false) (fun _ => undef) ops.size = a := by
    have : ∀ n, putAll ops a (fun _ => false) (fun _ => undef) n = a := by
      intro n
      induction n with
      | zero => rfl
      | succ n ih => rw [putAll, if_neg (by simp)]; exact ih
    exact this _
  have := key ops.size (Array.replicate ops.size false) (fun _ => undef) w0.drew (by simp) (by simp) (by rw [hc0]; intro k j h; cases h) (by rw [hc0]; intro k h; cases h) (Below.refl _ _).drew
  rw [hc0, ha] at this
  exact this
end
end Go.Proofs.Ytjaakhjfpigdfaa
