import Derived.Test.YtjaakhjfpigdfaaV
/-! Drawn regions by a kept relation: with guards. -/
namespace Go.Proofs.Ytjaakhjfpigdfaa
open Go.RowKit
set_option linter.unusedVariables false
section
variable {P : Program} {ops : Array Oper} {Q : Exit → Act → World → Prop}
/-- All edges lead back. -/
def backG (ops : Array Oper) : Bool := (List.range ops.size).all fun i => match ops[i]? with
  | some o => o.after.all fun e => !Region.binds .any e || decide (e.on < i)
  | none => true
theorem all_cameG (hb : backG ops = true) (listed : Array Bool) (hs : listed.size = ops.size) (hr : Region.ready .any ops listed = []) : ∀ n, ∀ j, j < n → j < ops.size → came listed j = true
  | 0, j, h, _ => by omega
  | n + 1, j, h, hj => by
    by_cases e : j < n
    · exact all_cameG hb listed hs hr n j e hj
    · cases hc : came listed j with
      | true => rfl
      | false =>
        exfalso
        have hjn : j = n := by omega
        subst hjn
        obtain ⟨o, ho⟩ : ∃ o, ops[j]? = some o := ⟨_, Array.getElem?_eq_getElem hj⟩
        have hmem : j ∈ Region.ready .any ops listed := by
          rw [mem_ready]
          refine ⟨?_, o, ho, fun e he hbi => ?_⟩
          · unfold came at hc
            have hl : j < listed.size := by omega
            simp [hl] at hc ⊢
            exact hc
          · have h3 := List.all_eq_true.1 hb j (List.mem_range.2 hj)
            rw [ho] at h3
            simp only at h3
            have h4 := (Array.all_eq_true_iff_forall_mem.1 h3) e he
            rw [hbi] at h4
            have h5 : e.on < j := by simpa using h4
            exact all_cameG hb listed hs hr j e.on h5 (by omega)
        rw [hr] at hmem
        cases hmem
/-- The step that is asked for operation i, guarded or not. -/
def StepOkG (P : Program) (ops : Array Oper) (Q : Exit → Act → World → Prop) (a0 : Act) (J : (Nat → Bool) → (Nat → Value) → World → Prop) (i : Nat) : Prop :=
  ∀ o L vs w b, ops[i]? = some o → L i = false → (∀ k, needsB ops i k = true → L k = true) → J L vs w →
    (∀ k t, dstAt ops k = some t → L k = true → t < a0.tmps.size → b.eval (.tmp t) = vs k) → (∀ t, noDstB ops t = true → b.eval (.tmp t) = a0.eval (.tmp t)) → b.tmps.size = a0.tmps.size →
    ∀ K : Act → World → Prop, (∀ u w', J (upd L i true) (upd vs i u) w' → K (b.put o.dst u) w') → if Region.wanted o (yielded ops b.tmps) = true then Oper.wp P o b w K Q else K (b.put o.dst undef) w
theorem ask_plain {ops : Array Oper} {o : Oper} {b : Act} {p q : Prop} (hg : o.guard = none) (h : p) : if Region.wanted o (yielded ops b.tmps) = true then p else q := by
  rw [if_pos (by unfold Region.wanted; rw [hg])]; exact h
theorem yielded_of {ops : Array Oper} {b : Act} (j : Nat) (t : Tmp) (v : Bool) (hd : dstAt ops j = some t) (hs : t < b.tmps.size) (he : b.eval (.tmp t) = .bool v) : yielded ops b.tmps j = some v := by
  unfold yielded
  unfold dstAt at hd
  rw [hd]
  simp only [Option.bind_some]
  have h2 : b.tmps[t]? = some (.bool v) := by
    have h3 : b.tmps.getD t undef = .bool v := he
    rw [Array.getD_eq_getD_getElem?] at h3
    rw [Array.getElem?_eq_getElem hs] at h3 ⊢
    simpa using h3
  rw [h2]
theorem ask_yes {ops : Array Oper} {o : Oper} {b : Act} {p q : Prop} (j : Nat) (t : Tmp) (v : Bool) (hg : o.guard = some (j, v)) (hd : dstAt ops j = some t) (hs : t < b.tmps.size) (he : b.eval (.tmp t) = .bool v) (h : p) : if Region.wanted o (yielded ops b.tmps) = true then p else q := by
  rw [if_pos (by unfold Region.wanted; rw [hg]; simp [yielded_of j t v hd hs he])]; exact h
theorem ask_no {ops : Array Oper} {o : Oper} {b : Act} {p q : Prop} (j : Nat) (t : Tmp) (v v' : Bool) (hg : o.guard = some (j, v)) (hd : dstAt ops j = some t) (hs : t < b.tmps.size) (he : b.eval (.tmp t) = .bool v') (hne : v' ≠ v) (h : q) : if Region.wanted o (yielded ops b.tmps) = true then p else q := by
  rw [if_neg (by unfold Region.wanted; rw [hg]; simp [yielded_of j t v' hd hs he, hne])]; exact h
theorem wpAny_invG (hd : distinctB ops = true) (hb : backG ops = true) (a0 : Act) (J : (Nat → Bool) → (Nat → Value) → World → Prop)
    (hstep : ∀ i, i < ops.size → StepOkG P ops Q a0 J i)
    (hend : ∀ vs w L, (∀ j, j < ops.size → L j = true) → J L vs w → Q .normal (putAll ops a0 (fun _ => true) vs ops.size) w) :
    ∀ (fuel : Nat) (listed : Array Bool) (vs : Nat → Value) (w : World), listed.size = ops.size → (listed.count false ≤ fuel) → J (came listed) vs w → wpAny P .any ops Q fuel listed (putAll ops a0 (came listed) vs ops.size) w := by
  have fin : ∀ (listed : Array Bool) vs w, listed.size = ops.size → Region.ready .any ops listed = [] → J (came listed) vs w → Q .normal (putAll ops a0 (came listed) vs ops.size) w := by
    intro listed vs w hs hr hJ
    have hall := fun j hj => all_cameG hb listed hs hr ops.size j hj hj
    have := hend vs w (came listed) hall hJ
    rw [putAll_congr ops a0 vs ops.size (fun j hj => hall j hj)]
    exact this
  intro fuel
  induction fuel with
  | zero =>
    intro listed vs w hs hc hJ
    have h0 : Region.ready .any ops listed = [] := by
      cases hr : Region.ready .any ops listed with
      | nil => rfl
      | cons i rest =>
        exfalso
        have hmem : i ∈ Region.ready .any ops listed := by rw [hr]; simp
        obtain ⟨hf, o, ho, _⟩ := mem_ready.1 hmem
        have hi : i < listed.size := by
          rcases Nat.lt_or_ge i listed.size with h | h
          · exact h
          · simp [Array.getElem?_eq_none h] at hf
        have : false ∈ listed := by
          have h1 : listed[i] = false := by simpa [hi] using hf
          rw [← h1]; exact Array.getElem_mem hi
        have := Array.count_pos_iff.2 this
        omega
    exact ⟨h0, fin listed vs w hs h0 hJ⟩
  | succ fuel ih =>
    intro listed vs w hs hc hJ
    refine ⟨fun hr => fin listed vs w hs hr hJ, fun i hmem => ?_⟩
    obtain ⟨hf, o, ho, hafter⟩ := mem_ready.1 hmem
    have hio : i < ops.size := (Array.getElem?_eq_some_iff.1 ho).1
    have hi : i < listed.size := by omega
    have hcf : came listed i = false := by unfold came; simp [hi] at hf ⊢; exact hf
    have hdst : dstAt ops i = o.dst := by unfold dstAt; rw [ho]; rfl
    refine wpOp_step ho fun K' hK => ?_
    have hneeds : ∀ k, needsB ops i k = true → came listed k = true := by
      intro k hk
      unfold needsB at hk
      rw [ho] at hk
      obtain ⟨j, hj, hq⟩ := Array.any_eq_true.1 hk
      simp only [Bool.and_eq_true, beq_iff_eq] at hq
      rw [← hq.2]
      exact hafter _ (Array.getElem_mem hj) hq.1
    refine hstep i hio o (came listed) vs w _ ho hcf hneeds hJ (fun k t hk hLk ht => ?_) (fun t ht => eval_stood' _ _ _ _ ht) (tmps_putAll _ _ _ _ _) K' fun u w' hJ' => ?_
    · have hk2 : k < ops.size := by
        rcases Nat.lt_or_ge k ops.size with h | h
        · exact h
        · unfold dstAt at hk; rw [Array.getElem?_eq_none h] at hk; cases hk
      exact eval_came hd a0 (came listed) vs k t hk2 hk hLk ht ops.size (Nat.le_refl _) hk2
    refine hK _ _ ?_
    rw [← hdst, put_all hd a0 (came listed) vs i u hio hcf, ← came_set listed i hi]
    refine ih _ _ _ (by simp [hs]) ?_ (by rw [came_set listed i hi]; exact hJ')
    have h1 : listed[i] = false := by simpa [hi] using hf
    have h2 : (listed.setIfInBounds i true).count false = listed.count false - 1 := by
      rw [Array.setIfInBounds, dif_pos hi, Array.count_set]
      simp [h1]
    omega
/-- **The law**: each operation, whenever it may come, keeps J; where all have come, J leads on. -/
theorem wp_region_invG {id : Nat} {a : Act} {w : World} (hm : P.follows .mixedOrders = true) (hd : distinctB ops = true) (hb : backG ops = true) (J : (Nat → Bool) → (Nat → Value) → World → Prop)
    (h0 : J (fun _ => false) (fun _ => undef) w.drew)
    (hstep : ∀ i, i < ops.size → StepOkG P ops Q a J i)
    (hend : ∀ vs w L, (∀ j, j < ops.size → L j = true) → J L vs w → Q .normal (putAll ops a (fun _ => true) vs ops.size) w) : (Code.region id ops true).wp P Q a w := by
  refine wp_region_any hm ?_
  have hc : came (Array.replicate ops.size false) = fun _ => false := by
    funext j
    unfold came
    rcases Nat.lt_or_ge j ops.size with h | h <;> simp [h]
  have ha : putAll ops a (fun _ => false) (fun _ => undef) ops.size = a := by
    have : ∀ n, putAll ops a (fun _ => false) (fun _ => undef) n = a := by
      intro n
      induction n with
      | zero => rfl
      | succ n ih => rw [putAll, if_neg (by simp)]; exact ih
    exact this _
  have := wpAny_invG hd hb a J hstep hend ops.size (Array.replicate ops.size false) (fun _ => undef) w.drew (by simp) (by simp) (by rw [hc]; exact h0)
  rw [hc, ha] at this
  exact this
end
end Go.Proofs.Ytjaakhjfpigdfaa
