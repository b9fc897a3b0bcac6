import Derived.Test.YtjaakhjfpigdfaaV2
/-! Drawn regions whose operations only make memory, up to a tail in forced order: one relation on each operation's result. -/
namespace Go.Proofs.Ytjaakhjfpigdfaa
open Go.RowKit
set_option linter.unusedVariables false
section
variable {P : Program} {ops : Array Oper} {Q : Exit → Act → World → Prop}
/-- From m on the operations come in the order of the text, behind all others. -/
def sinkOk (ops : Array Oper) (m : Nat) : Bool :=
  ((List.range m).all fun j => needsB ops m j || (List.range m).any fun j' => decide (j < j') && needsB ops j' j) && ((List.range ops.size).all fun k => decide (k ≤ m) || needsB ops k (k - 1))
def noDstM (ops : Array Oper) (m : Nat) (t : Tmp) : Bool := (List.range m).all fun j => dstAt ops j != some t
theorem eval_stoodL {ops : Array Oper} (a : Act) (L : Nat → Bool) (vs : Nat → Value) (t : Tmp) : ∀ n, (∀ j, j < n → L j = true → dstAt ops j ≠ some t) → (putAll ops a L vs n).eval (.tmp t) = a.eval (.tmp t)
  | 0, _ => rfl
  | n + 1, h => by
    rw [putAll]
    have ih := eval_stoodL a L vs t n (fun j hj => h j (by omega))
    by_cases hL : L n = true
    · rw [if_pos hL, eval_put_other _ _ _ _ (h n (by omega) hL)]; exact ih
    · rw [if_neg hL]; exact ih
/-- The step that is asked for operation i. -/
def StepM (P : Program) (ops : Array Oper) (m : Nat) (Q : Exit → Act → World → Prop) (a0 : Act) (w0 : World) (pd : Nat → Value → World → Prop) (i : Nat) : Prop :=
  ∀ o w b, ops[i]? = some o → Below w0.heap.size w0 w →
    (∀ k t, dstAt ops k = some t → needsB ops i k = true → t < a0.tmps.size → pd k (b.eval (.tmp t)) w) → (∀ t, noDstM ops m t = true → b.eval (.tmp t) = a0.eval (.tmp t)) → b.tmps.size = a0.tmps.size →
    ∀ K : Act → World → Prop, (∀ u w', pd i u w' → Below w.heap.size w w' → K (b.put o.dst u) w') → if Region.wanted o (yielded ops b.tmps) = true then Oper.wp P o b w K Q else K (b.put o.dst undef) w
def Closed (ops : Array Oper) (L : Nat → Bool) : Prop := ∀ k j, L k = true → needsB ops k j = true → L j = true
theorem head_came {m : Nat} (hf : sinkOk ops m = true) {L : Nat → Bool} (hc : Closed ops L) (hm : ∀ j, needsB ops m j = true → L j = true) : ∀ n j, m - j ≤ n → j < m → L j = true
  | 0, j, h, hj => by omega
  | n + 1, j, h, hj => by
    have hf' := hf
    unfold sinkOk at hf
    simp only [Bool.and_eq_true] at hf
    have h1 := List.all_eq_true.1 hf.1 j (List.mem_range.2 hj)
    simp only [Bool.or_eq_true] at h1
    rcases h1 with h1 | h1
    · exact hm j h1
    · obtain ⟨j', hj', h2⟩ := List.any_eq_true.1 h1
      simp only [Bool.and_eq_true, decide_eq_true_eq] at h2
      exact hc j' j (head_came hf' hc hm n j' (by omega) (List.mem_range.1 hj')) h2.2
theorem tail_wp {m : Nat} (hb : backG ops = true) (hf : sinkOk ops m = true) : ∀ (d k fuel : Nat) (listed : Array Bool) (a : Act) (w : World), ops.size - k = d → m ≤ k → k ≤ ops.size → listed.size = ops.size → (∀ j, j < ops.size → came listed j = decide (j < k)) → d ≤ fuel →
    wpList P ops Q (ops.toList.drop k) a w → wpAny P .any ops Q fuel listed a w := by
  have only : ∀ (k : Nat) (listed : Array Bool), m ≤ k → listed.size = ops.size → (∀ j, j < ops.size → came listed j = decide (j < k)) → ∀ i ∈ Region.ready .any ops listed, i = k := by
    intro k listed hk hs hL i hi
    obtain ⟨hfl, o, ho, haft⟩ := mem_ready.1 hi
    have hio : i < ops.size := (Array.getElem?_eq_some_iff.1 ho).1
    have hlt : i < listed.size := by omega
    have hcf : came listed i = false := by unfold came; simp [hlt] at hfl ⊢; exact hfl
    rw [hL i hio] at hcf
    have hge : k ≤ i := by simpa using hcf
    rcases Nat.lt_or_ge k i with h | h
    · exfalso
      unfold sinkOk at hf
      simp only [Bool.and_eq_true] at hf
      have h1 := List.all_eq_true.1 hf.2 i (List.mem_range.2 hio)
      simp only [Bool.or_eq_true, decide_eq_true_eq] at h1
      rcases h1 with h1 | h1
      · omega
      · unfold needsB at h1
        rw [ho] at h1
        obtain ⟨j, hj, hq⟩ := Array.any_eq_true.1 h1
        simp only [Bool.and_eq_true, beq_iff_eq] at hq
        have h2 := haft _ (Array.getElem_mem hj) hq.1
        rw [hq.2] at h2
        have h3 : came listed (i - 1) = true := h2
        rw [hL (i - 1) (by omega)] at h3
        simp at h3
        omega
    · omega
  intro d
  induction d with
  | zero =>
    intro k fuel listed a w hd hk hko hs hL hfu h
    have hnil : Region.ready .any ops listed = [] := by
      cases hr : Region.ready .any ops listed with
      | nil => rfl
      | cons i rest =>
        exfalso
        have hmem : i ∈ Region.ready .any ops listed := by rw [hr]; simp
        have := only k listed hk hs hL i hmem
        obtain ⟨_, o, ho, _⟩ := mem_ready.1 hmem
        have hio : i < ops.size := (Array.getElem?_eq_some_iff.1 ho).1
        omega
    have hq : Q .normal a w := by
      rw [List.drop_eq_nil_of_le (by rw [Array.length_toList]; omega)] at h
      exact h
    cases fuel with
    | zero => exact ⟨hnil, hq⟩
    | succ fuel => exact ⟨fun _ => hq, by rw [hnil]; simp⟩
  | succ d ih =>
    intro k fuel listed a w hd hk hko hs hL hfu h
    obtain ⟨fuel, rfl⟩ : ∃ f, fuel = f + 1 := ⟨fuel - 1, by omega⟩
    have hklt : k < ops.size := by omega
    have hdrop : ops.toList.drop k = ops[k] :: ops.toList.drop (k + 1) := by
      rw [List.drop_eq_getElem_cons (by rw [Array.length_toList]; exact hklt)]
      simp
    rw [hdrop] at h
    have hready : k ∈ Region.ready .any ops listed ∨ Region.ready .any ops listed = [] := by
      cases hr : Region.ready .any ops listed with
      | nil => exact .inr rfl
      | cons i rest =>
        have := only k listed hk hs hL i (by rw [hr]; simp)
        subst this
        exact .inl (by simp)
    have hstep : wpOp P ops Q k (wpAny P .any ops Q fuel (listed.setIfInBounds k true)) a w := by
      have hL2 : ∀ j, j < ops.size → came (listed.setIfInBounds k true) j = decide (j < k + 1) := by
        intro j hj
        rw [came_set listed k (by omega)]
        by_cases e : j = k
        · subst e; rw [upd_same]; simp
        · rw [upd_other _ _ e, hL j hj]
          have : (j < k) ↔ (j < k + 1) := by omega
          simp [this]
      have go : ∀ a' w', wpList P ops Q (ops.toList.drop (k + 1)) a' w' → wpAny P .any ops Q fuel (listed.setIfInBounds k true) a' w' :=
        fun a' w' h' => ih (k + 1) fuel _ a' w' (by omega) (by omega) (by omega) (by simp [hs]) hL2 (by omega) h'
      unfold wpOp
      rw [Array.getElem?_eq_getElem hklt]
      simp only
      unfold wpList at h
      split
      · rename_i hw; rw [if_pos hw] at h; exact h.imp (Oper.wp_mono go) id
      · rename_i hw; rw [if_neg hw] at h; exact go _ _ h
    refine ⟨fun hnil => ?_, fun i hi => ?_⟩
    · exfalso
      have hkr : k ∈ Region.ready .any ops listed := by
        rw [mem_ready]
        refine ⟨?_, ops[k], Array.getElem?_eq_getElem hklt, fun e he hbi => ?_⟩
        · have := hL k hklt
          unfold came at this
          have hl : k < listed.size := by omega
          simp [hl] at this ⊢
          exact this
        · have h3 := List.all_eq_true.1 hb k (List.mem_range.2 hklt)
          rw [Array.getElem?_eq_getElem hklt] at h3
          simp only at h3
          have h4 := (Array.all_eq_true_iff_forall_mem.1 h3) e he
          rw [hbi] at h4
          have h5 : e.on < k := by simpa using h4
          have h6 := hL e.on (by omega)
          rw [decide_eq_true h5] at h6
          exact h6
      rw [hnil] at hkr
      cases hkr
    · have := only k listed hk hs hL i hi
      subst this
      exact hstep
theorem putAll_first {m : Nat} (a : Act) (vs : Nat → Value) (L : Nat → Bool) (hL : ∀ j, j < ops.size → L j = decide (j < m)) : ∀ n, n ≤ ops.size → putAll ops a L vs n = putD vs ((List.range (min m n)).map (dstAt ops)) 0 a
  | 0, _ => by simp [putAll, putD]
  | n + 1, hn => by
    have ih := putAll_first a vs L hL n (by omega)
    rw [putAll, hL n (by omega)]
    by_cases h : n < m
    · rw [if_pos (by simpa using h), ih, show min m (n + 1) = min m n + 1 by omega, List.range_succ, List.map_append, List.map_singleton, putD_snoc, List.length_map, List.length_range, show min m n = n by omega, Nat.zero_add]
    · rw [if_neg (by simpa using h), ih, show min m (n + 1) = min m n by omega]
/-- **The law.** The first m operations come in whatever order, make memory alone, and each one's result is what pd says; then the others, in the text's order. -/
theorem wp_region_mono {id : Nat} {a : Act} {w0 : World} (m : Nat) (ds : List (Option Tmp)) (hm : P.follows .mixedOrders = true) (hd : distinctB ops = true) (hb : backG ops = true) (hf : sinkOk ops m = true) (hmn : m ≤ ops.size) (hds : (List.range m).map (dstAt ops) = ds) (pd : Nat → Value → World → Prop)
    (mono : ∀ i v w w', pd i v w → Below w.heap.size w w' → pd i v w')
    (hstep : ∀ i, i < m → StepM P ops m Q a w0 pd i)
    (hend : ∀ vs w, (∀ k, k < m → pd k (vs k) w) → Below w0.heap.size w0 w → wpList P ops Q (ops.toList.drop m) (putD vs ds 0 a) w) : (Code.region id ops true).wp P Q a w0 := by
  refine wp_region_any hm ?_
  have key : ∀ (fuel : Nat) (listed : Array Bool) (vs : Nat → Value) (w : World), listed.size = ops.size → listed.count false ≤ fuel → Closed ops (came listed) → (∀ k, came listed k = true → k < m ∧ pd k (vs k) w) → Below w0.heap.size w0 w →
      wpAny P .any ops Q fuel listed (putAll ops a (came listed) vs ops.size) w := by
    intro fuel
    induction fuel with
    | zero =>
      intro listed vs w hs hc hcl hJ hbel
      have hall : ∀ j, j < ops.size → came listed j = true := by
        intro j hj
        unfold came
        cases hq : listed.getD j false with
        | true => rfl
        | false =>
          exfalso
          have hl : j < listed.size := by omega
          have h1 : listed[j] = false := by simpa [hl] using hq
          have : false ∈ listed := by rw [← h1]; exact Array.getElem_mem hl
          have := Array.count_pos_iff.2 this
          omega
      have hmn2 : m = ops.size := by
        rcases Nat.lt_or_ge m ops.size with h | h
        · have := (hJ m (hall m h)).1; omega
        · omega
      have hL : ∀ j, j < ops.size → came listed j = decide (j < m) := fun j hj => by rw [hall j hj, hmn2]; simp [hj]
      rw [putAll_first a vs (came listed) hL ops.size (Nat.le_refl _), show min m ops.size = m by omega, hds]
      exact tail_wp hb hf (ops.size - m) m 0 listed _ w rfl (Nat.le_refl _) hmn hs hL (by omega) (hend vs w (fun k hk => (hJ k (hall k (by omega))).2) hbel)
    | succ fuel ih =>
      intro listed vs w hs hc hcl hJ hbel
      by_cases hsat : ∀ j, j < m → came listed j = true
      · have hL : ∀ j, j < ops.size → came listed j = decide (j < m) := by
          intro j hj
          by_cases h : j < m
          · rw [hsat j h]; simp [h]
          · cases hq : came listed j with
            | false => simp [h]
            | true => have := (hJ j hq).1; omega
        rw [putAll_first a vs (came listed) hL ops.size (Nat.le_refl _), show min m ops.size = m by omega, hds]
        have hfu : ops.size - m ≤ fuel + 1 := by
          have h1 : ∀ n, n ≤ ops.size → n - m ≤ (listed.toList.take n).count false := by
            intro n
            induction n with
            | zero => intro _; omega
            | succ n ihn =>
              intro hn
              have h2 := ihn (by omega)
              have hl : n < listed.toList.length := by rw [Array.length_toList]; omega
              rw [List.take_add_one, List.count_append]
              by_cases h3 : n < m
              · omega
              · have h4 : listed.toList[n]? = some false := by
                  have h5 := hL n (by omega)
                  have hls : n < listed.size := by omega
                  unfold came at h5
                  simp [hls, h3] at h5
                  rw [List.getElem?_eq_getElem hl]
                  simpa using h5
                rw [h4]
                simp
                omega
          have h2 := h1 ops.size (Nat.le_refl _)
          rw [List.take_of_length_le (by rw [Array.length_toList]; omega), Array.count_toList] at h2
          omega
        exact tail_wp hb hf (ops.size - m) m (fuel + 1) listed _ w rfl (Nat.le_refl _) hmn hs hL hfu (hend vs w (fun k hk => (hJ k (hsat k hk)).2) hbel)
      · refine ⟨fun hr => ?_, fun i hmem => ?_⟩
        · exfalso
          apply hsat
          intro j hj
          exact all_cameG hb listed hs hr ops.size j (by omega) (by omega)
        · obtain ⟨hfl, o, ho, hafter⟩ := mem_ready.1 hmem
          have hio : i < ops.size := (Array.getElem?_eq_some_iff.1 ho).1
          have hi : i < listed.size := by omega
          have hcf : came listed i = false := by unfold came; simp [hi] at hfl ⊢; exact hfl
          have hneeds : ∀ k, needsB ops i k = true → came listed k = true := by
            intro k hk
            unfold needsB at hk
            rw [ho] at hk
            obtain ⟨j, hj, hq⟩ := Array.any_eq_true.1 hk
            simp only [Bool.and_eq_true, beq_iff_eq] at hq
            rw [← hq.2]
            exact hafter _ (Array.getElem_mem hj) hq.1
          have him : i < m := by
            rcases Nat.lt_or_ge i m with h | h
            · exact h
            · exfalso
              rcases Nat.lt_or_ge m i with h2 | h2
              · have hf' := hf
                unfold sinkOk at hf'
                simp only [Bool.and_eq_true] at hf'
                have h1 := List.all_eq_true.1 hf'.2 i (List.mem_range.2 hio)
                simp only [Bool.or_eq_true, decide_eq_true_eq] at h1
                rcases h1 with h1 | h1
                · omega
                · have := (hJ (i - 1) (hneeds (i - 1) h1)).1
                  omega
              · have e : i = m := by omega
                subst e
                exact hsat (fun j hj => head_came hf hcl hneeds i j (by omega) hj)
          have hdst : dstAt ops i = o.dst := by unfold dstAt; rw [ho]; rfl
          have hts := tmps_putAll ops a (came listed) vs ops.size
          refine wpOp_step ho fun K' hK => ?_
          refine hstep i him o w _ ho hbel (fun k t hk hnk ht => ?_) (fun t ht => eval_stoodL _ _ _ _ _ (fun j _ hLj => by have := List.all_eq_true.1 ht j (List.mem_range.2 (hJ j hLj).1); simpa using this)) hts K' fun u w' hpd hb' => ?_
          · have hk2 : k < ops.size := by
              rcases Nat.lt_or_ge k ops.size with h | h
              · exact h
              · unfold dstAt at hk; rw [Array.getElem?_eq_none h] at hk; cases hk
            rw [eval_came hd a (came listed) vs k t hk2 hk (hneeds k hnk) ht ops.size (Nat.le_refl _) hk2]
            exact (hJ k (hneeds k hnk)).2
          · refine hK _ _ ?_
            rw [← hdst, put_all hd a (came listed) vs i u hio hcf, ← came_set listed i hi]
            refine ih _ _ _ (by simp [hs]) ?_ ?_ ?_ (hbel.trans (hb'.mono hbel.size))
            · have h1 : listed[i] = false := by simpa [hi] using hfl
              have h2 : (listed.setIfInBounds i true).count false = listed.count false - 1 := by
                rw [Array.setIfInBounds, dif_pos hi, Array.count_set]
                simp [h1]
              omega
            · intro k j hk hnj
              rw [came_set listed i hi] at hk ⊢
              by_cases e : k = i
              · subst e
                by_cases e2 : j = k
                · subst e2; exact upd_same _ _ _
                · rw [upd_other _ _ e2]; exact hneeds j hnj
              · rw [upd_other _ _ e] at hk
                by_cases e2 : j = i
                · subst e2; exact upd_same _ _ _
                · rw [upd_other _ _ e2]; exact hcl k j hk hnj
            · intro k hk
              rw [came_set listed i hi] at hk
              by_cases e : k = i
              · subst e; rw [upd_same]; exact ⟨him, hpd⟩
              · rw [upd_other _ _ e] at hk ⊢
                exact ⟨(hJ k hk).1, mono _ _ _ _ (hJ k hk).2 hb'⟩
  have hc0 : came (Array.replicate ops.size false) = fun _ => false := by
    funext j
    unfold came
    rcases Nat.lt_or_ge j ops.size with h | h <;> simp [h]
  have ha : putAll ops a (fun _ => false) (fun _ => undef) ops.size = a := by
    have : ∀ n, putAll ops a (fun _ => false) (fun _ => undef) n = a := by
      intro n
      induction n with
      | zero => rfl
      | succ n ih => rw [putAll, if_neg (by simp)]; exact ih
    exact this _
  have := key ops.size (Array.replicate ops.size false) (fun _ => undef) w0.drew (by simp) (by simp) (by rw [hc0]; intro k j h; cases h) (by rw [hc0]; intro k h; cases h) (Below.refl _ _).drew
  rw [hc0, ha] at this
  exact this
end
end Go.Proofs.Ytjaakhjfpigdfaa
