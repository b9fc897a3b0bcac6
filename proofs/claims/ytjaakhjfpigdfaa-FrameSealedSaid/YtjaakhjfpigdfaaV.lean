import Derived.Test.YtjaakhjfpigdfaaK
import Derived.OrdersHeld
import Derived.Deep.RegionHeld3
import Derived.Laws.Rows
/-! A region that draws its order, walked by a relation that each of its operations keeps, whatever came before: no order is branched over. -/
namespace Go.Proofs.Ytjaakhjfpigdfaa
open Go.RowKit
set_option linter.unusedVariables false

def upd {α : Type} (f : Nat → α) (i : Nat) (x : α) : Nat → α := fun j => if j = i then x else f j
theorem upd_same {α : Type} (f : Nat → α) (i : Nat) (x : α) : upd f i x i = x := by simp [upd]
theorem upd_other {α : Type} (f : Nat → α) {i j : Nat} (x : α) (h : j ≠ i) : upd f i x j = f j := by simp [upd, h]
def dstAt (ops : Array Oper) (i : Nat) : Option Tmp := (ops[i]?).bind (·.dst)
/-- The frame with the results of those that have come. -/
def putAll (ops : Array Oper) (a : Act) (L : Nat → Bool) (vs : Nat → Value) : Nat → Act
  | 0 => a
  | n + 1 => if L n = true then (putAll ops a L vs n).put (dstAt ops n) (vs n) else putAll ops a L vs n
/-- No two operations have one result. -/
def distinctB (ops : Array Oper) : Bool := (List.range ops.size).all fun i => (List.range i).all fun j => match dstAt ops i, dstAt ops j with
  | some x, some y => x != y
  | _, _ => true
/-- All edges lead back, no guards, no select. -/
def backB (ops : Array Oper) : Bool := (List.range ops.size).all fun i => match ops[i]? with
  | some o => (o.after.all fun e => !Region.binds .any e || decide (e.on < i)) && (match o.guard with | none => true | some _ => false)
  | none => true
theorem distinct_of {ops : Array Oper} (h : distinctB ops = true) {i j : Nat} (hi : i < ops.size) (hj : j < ops.size) (hne : i ≠ j) : ∀ d, dstAt ops i = some d → dstAt ops j ≠ some d := by
  intro d h1 h2
  have key : ∀ a b : Nat, a < ops.size → b < a → dstAt ops a = some d → dstAt ops b = some d → False := by
    intro a b ha hb e1 e2
    unfold distinctB at h
    have h3 := List.all_eq_true.1 h a (List.mem_range.2 ha)
    have h4 := List.all_eq_true.1 h3 b (List.mem_range.2 hb)
    rw [e1, e2] at h4
    simp at h4
  rcases Nat.lt_or_ge i j with hlt | hge
  · exact key j i hj hlt h2 h1
  · exact key i j hi (by omega) h1 h2
theorem put_putAll {ops : Array Oper} (hd : distinctB ops = true) (a : Act) (L : Nat → Bool) (vs : Nat → Value) (i : Nat) (u : Value) (hi : i < ops.size) (hL : L i = false) :
    ∀ n, n ≤ ops.size → (putAll ops a L vs n).put (if i < n then dstAt ops i else none) (if i < n then u else undef) = putAll ops a (upd L i true) (upd vs i u) n
  | 0, _ => by simp [putAll, Act.put]
  | n + 1, hn => by
    have ih := put_putAll hd a L vs i u hi hL n (by omega)
    by_cases e : i = n
    · subst e
      have hlt : ¬ i < i := by omega
      rw [if_neg hlt, if_neg hlt] at ih
      have e0 : (putAll ops a L vs i).put none undef = putAll ops a L vs i := rfl
      rw [e0] at ih
      simp only [putAll, hL, upd_same, if_true, show i < i + 1 by omega]
      simp only [Bool.false_eq_true, if_false]
      rw [ih]
    · have hne : n ≠ i := fun h => e h.symm
      simp only [putAll, upd_other L true hne, upd_other vs u hne]
      by_cases hlt : i < n
      · rw [if_pos hlt, if_pos hlt] at ih
        have h1 : i < n + 1 := by omega
        rw [if_pos h1, if_pos h1]
        by_cases hn2 : L n = true
        · rw [if_pos hn2, if_pos hn2, ← ih, Act.put_comm _ _ _ (distinct_of hd (show n < ops.size by omega) hi hne)]
        · rw [if_neg hn2, if_neg hn2]; exact ih
      · rw [if_neg hlt, if_neg hlt] at ih
        have h1 : ¬ i < n + 1 := by omega
        rw [if_neg h1, if_neg h1]
        have e0 : ∀ b : Act, b.put none undef = b := fun _ => rfl
        rw [e0] at ih
        by_cases hn2 : L n = true
        · rw [if_pos hn2, if_pos hn2, e0, ih]
        · rw [if_neg hn2, if_neg hn2, e0]; exact ih
theorem put_all {ops : Array Oper} (hd : distinctB ops = true) (a : Act) (L : Nat → Bool) (vs : Nat → Value) (i : Nat) (u : Value) (hi : i < ops.size) (hL : L i = false) :
    (putAll ops a L vs ops.size).put (dstAt ops i) u = putAll ops a (upd L i true) (upd vs i u) ops.size := by
  have := put_putAll hd a L vs i u hi hL ops.size (Nat.le_refl _)
  rw [if_pos hi, if_pos hi] at this
  exact this
theorem putAll_congr (ops : Array Oper) (a : Act) {L M : Nat → Bool} (vs : Nat → Value) : ∀ n, (∀ j, j < n → L j = M j) → putAll ops a L vs n = putAll ops a M vs n
  | 0, _ => rfl
  | n + 1, h => by rw [putAll, putAll, h n (by omega), putAll_congr ops a vs n (fun j hj => h j (by omega))]
theorem eval_put_same (a : Act) (t : Tmp) (v : Value) (h : t < a.tmps.size) : (a.put (some t) v).eval (.tmp t) = v := by
  simp [Act.eval, Act.put, h]
theorem eval_put_other (a : Act) (x : Option Tmp) (t : Tmp) (v : Value) (h : x ≠ some t) : (a.put x v).eval (.tmp t) = a.eval (.tmp t) := by
  cases x with
  | none => rfl
  | some d =>
    have hne : d ≠ t := fun e => h (by rw [e])
    simp [Act.eval, Act.put, Array.getElem?_setIfInBounds_ne hne]
theorem tmps_put (a : Act) (x : Option Tmp) (v : Value) : (a.put x v).tmps.size = a.tmps.size := by
  cases x <;> simp [Act.put]
theorem tmps_putAll (ops : Array Oper) (a : Act) (L : Nat → Bool) (vs : Nat → Value) : ∀ n, (putAll ops a L vs n).tmps.size = a.tmps.size
  | 0 => rfl
  | n + 1 => by
    rw [putAll]
    split
    · rw [tmps_put]; exact tmps_putAll ops a L vs n
    · exact tmps_putAll ops a L vs n
/-- What an operation's result is, once it has come. -/
theorem eval_came {ops : Array Oper} (hd : distinctB ops = true) (a : Act) (L : Nat → Bool) (vs : Nat → Value) (i : Nat) (t : Tmp) (hi : i < ops.size) (ht : dstAt ops i = some t) (hL : L i = true) (hs : t < a.tmps.size) :
    ∀ n, n ≤ ops.size → i < n → (putAll ops a L vs n).eval (.tmp t) = vs i
  | 0, _, h => by omega
  | n + 1, hn, h => by
    rw [putAll]
    by_cases e : i = n
    · subst e
      rw [if_pos hL, ht, eval_put_same _ _ _ (by rw [tmps_putAll]; exact hs)]
    · have ih := eval_came hd a L vs i t hi ht hL hs n (by omega) (by omega)
      split
      · rw [eval_put_other _ _ _ _ (distinct_of hd hi (show n < ops.size by omega) e t ht)]; exact ih
      · exact ih
/-- What is no operation's result stands as it stood. -/
theorem eval_stood {ops : Array Oper} (a : Act) (L : Nat → Bool) (vs : Nat → Value) (t : Tmp) : ∀ n, (∀ j, j < n → dstAt ops j ≠ some t) → (putAll ops a L vs n).eval (.tmp t) = a.eval (.tmp t)
  | 0, _ => rfl
  | n + 1, h => by
    rw [putAll]
    have ih := eval_stood a L vs t n (fun j hj => h j (by omega))
    split
    · rw [eval_put_other _ _ _ _ (h n (by omega))]; exact ih
    · exact ih
def putD (vs : Nat → Value) : List (Option Tmp) → Nat → Act → Act
  | [], _, a => a
  | d :: ds, i, a => putD vs ds (i + 1) (a.put d (vs i))
theorem putD_snoc (vs : Nat → Value) (x : Option Tmp) : ∀ (ds : List (Option Tmp)) (i : Nat) (a : Act), putD vs (ds ++ [x]) i a = (putD vs ds i a).put x (vs (i + ds.length))
  | [], i, a => by simp [putD]
  | d :: ds, i, a => by
    show putD vs (ds ++ [x]) (i + 1) _ = _
    rw [putD_snoc vs x ds, List.length_cons, show i + 1 + ds.length = i + (ds.length + 1) by omega]; rfl
/-- All have come: the frame, result by result. -/
theorem putAll_true {ops : Array Oper} (a : Act) (vs : Nat → Value) : ∀ (n : Nat), putAll ops a (fun _ => true) vs n = putD vs ((List.range n).map (dstAt ops)) 0 a
  | 0 => rfl
  | n + 1 => by
    rw [putAll, if_pos rfl, putAll_true a vs n, List.range_succ, List.map_append, List.map_singleton, putD_snoc, List.length_map, List.length_range, Nat.zero_add]
theorem putAll_lit {ops : Array Oper} (ds : List (Option Tmp)) (h : (List.range ops.size).map (dstAt ops) = ds) (a : Act) (vs : Nat → Value) : putAll ops a (fun _ => true) vs ops.size = putD vs ds 0 a := by
  rw [putAll_true, h]
def noDstB (ops : Array Oper) (t : Tmp) : Bool := (List.range ops.size).all fun j => dstAt ops j != some t
theorem eval_stood' {ops : Array Oper} (a : Act) (L : Nat → Bool) (vs : Nat → Value) (t : Tmp) (h : noDstB ops t = true) : (putAll ops a L vs ops.size).eval (.tmp t) = a.eval (.tmp t) :=
  eval_stood a L vs t ops.size fun j hj => by
    have := List.all_eq_true.1 h j (List.mem_range.2 hj)
    simpa using this
section
variable {P : Program} {ops : Array Oper} {Q : Exit → Act → World → Prop}
def came (listed : Array Bool) : Nat → Bool := fun j => listed.getD j false
theorem came_set (listed : Array Bool) (i : Nat) (h : i < listed.size) : came (listed.setIfInBounds i true) = upd (came listed) i true := by
  funext j
  unfold came upd
  by_cases e : j = i
  · subst e; simp [h]
  · rw [if_neg e, getD_set_ne _ (fun h => e h.symm)]
theorem all_came (hb : backB ops = true) (listed : Array Bool) (hs : listed.size = ops.size) (hr : Region.ready .any ops listed = []) : ∀ n, ∀ j, j < n → j < ops.size → came listed j = true
  | 0, j, h, _ => by omega
  | n + 1, j, h, hj => by
    by_cases e : j < n
    · exact all_came hb listed hs hr n j e hj
    · cases hc : came listed j with
      | true => rfl
      | false =>
        exfalso
        have hjn : j = n := by omega
        subst hjn
        obtain ⟨o, ho⟩ : ∃ o, ops[j]? = some o := ⟨_, Array.getElem?_eq_getElem hj⟩
        have hmem : j ∈ Region.ready .any ops listed := by
          rw [mem_ready]
          refine ⟨?_, o, ho, fun e he hbi => ?_⟩
          · unfold came at hc
            have hl : j < listed.size := by omega
            simp [hl] at hc ⊢
            exact hc
          · have h3 := List.all_eq_true.1 hb j (List.mem_range.2 hj)
            rw [ho] at h3
            simp only [Bool.and_eq_true] at h3
            have h4 := (Array.all_eq_true_iff_forall_mem.1 h3.1) e he
            rw [hbi] at h4
            have h5 : e.on < j := by simpa using h4
            exact all_came hb listed hs hr j e.on h5 (by omega)
        rw [hr] at hmem
        cases hmem
/-- Operation i waits for operation k. -/
def needsB (ops : Array Oper) (i k : Nat) : Bool := match ops[i]? with
  | some o => o.after.any fun e => Region.binds .any e && e.on == k
  | none => false
/-- The step that is asked for operation i. -/
def StepOk (P : Program) (ops : Array Oper) (Q : Exit → Act → World → Prop) (a0 : Act) (J : (Nat → Bool) → (Nat → Value) → World → Prop) (i : Nat) : Prop :=
  ∀ o L vs w b, ops[i]? = some o → L i = false → (∀ k, needsB ops i k = true → L k = true) → J L vs w →
    (∀ k t, dstAt ops k = some t → L k = true → t < a0.tmps.size → b.eval (.tmp t) = vs k) → (∀ t, noDstB ops t = true → b.eval (.tmp t) = a0.eval (.tmp t)) →
    ∀ K : Act → World → Prop, (∀ u w', J (upd L i true) (upd vs i u) w' → K (b.put o.dst u) w') → Oper.wp P o b w K Q
theorem wpAny_inv (hd : distinctB ops = true) (hb : backB ops = true) (a0 : Act) (J : (Nat → Bool) → (Nat → Value) → World → Prop)
    (hstep : ∀ i, i < ops.size → StepOk P ops Q a0 J i)
    (hend : ∀ vs w L, (∀ j, j < ops.size → L j = true) → J L vs w → Q .normal (putAll ops a0 (fun _ => true) vs ops.size) w) :
    ∀ (fuel : Nat) (listed : Array Bool) (vs : Nat → Value) (w : World), listed.size = ops.size → (listed.count false ≤ fuel) → J (came listed) vs w → wpAny P .any ops Q fuel listed (putAll ops a0 (came listed) vs ops.size) w := by
  have fin : ∀ (listed : Array Bool) vs w, listed.size = ops.size → Region.ready .any ops listed = [] → J (came listed) vs w → Q .normal (putAll ops a0 (came listed) vs ops.size) w := by
    intro listed vs w hs hr hJ
    have hall := fun j hj => all_came hb listed hs hr ops.size j hj hj
    have := hend vs w (came listed) hall hJ
    rw [putAll_congr ops a0 vs ops.size (fun j hj => hall j hj)]
    exact this
  intro fuel
  induction fuel with
  | zero =>
    intro listed vs w hs hc hJ
    have h0 : Region.ready .any ops listed = [] := by
      cases hr : Region.ready .any ops listed with
      | nil => rfl
      | cons i rest =>
        exfalso
        have hmem : i ∈ Region.ready .any ops listed := by rw [hr]; simp
        obtain ⟨hf, o, ho, _⟩ := mem_ready.1 hmem
        have hi : i < listed.size := by
          rcases Nat.lt_or_ge i listed.size with h | h
          · exact h
          · simp [Array.getElem?_eq_none h] at hf
        have : false ∈ listed := by
          have h1 : listed[i] = false := by simpa [hi] using hf
          rw [← h1]; exact Array.getElem_mem hi
        have := Array.count_pos_iff.2 this
        omega
    exact ⟨h0, fin listed vs w hs h0 hJ⟩
  | succ fuel ih =>
    intro listed vs w hs hc hJ
    refine ⟨fun hr => fin listed vs w hs hr hJ, fun i hmem => ?_⟩
    obtain ⟨hf, o, ho, hafter⟩ := mem_ready.1 hmem
    have hio : i < ops.size := (Array.getElem?_eq_some_iff.1 ho).1
    have hi : i < listed.size := by omega
    have hcf : came listed i = false := by unfold came; simp [hi] at hf ⊢; exact hf
    have hg : Region.wanted o (yielded ops (putAll ops a0 (came listed) vs ops.size).tmps) = true := by
      have h3 := List.all_eq_true.1 hb i (List.mem_range.2 hio)
      rw [ho] at h3
      simp only [Bool.and_eq_true] at h3
      have h4 := h3.2
      unfold Region.wanted
      cases hgd : o.guard with
      | none => rfl
      | some x => rw [hgd] at h4; cases h4
    have hdst : dstAt ops i = o.dst := by unfold dstAt; rw [ho]; rfl
    refine wpOp_step ho fun K' hK => ?_
    rw [if_pos hg]
    have hneeds : ∀ k, needsB ops i k = true → came listed k = true := by
      intro k hk
      unfold needsB at hk
      rw [ho] at hk
      obtain ⟨j, hj, hq⟩ := Array.any_eq_true.1 hk
      simp only [Bool.and_eq_true, beq_iff_eq] at hq
      rw [← hq.2]
      exact hafter _ (Array.getElem_mem hj) hq.1
    refine hstep i hio o (came listed) vs w _ ho hcf hneeds hJ (fun k t hk hLk ht => ?_) (fun t ht => eval_stood' _ _ _ _ ht) K' fun u w' hJ' => ?_
    · have hk2 : k < ops.size := by
        rcases Nat.lt_or_ge k ops.size with h | h
        · exact h
        · unfold dstAt at hk; rw [Array.getElem?_eq_none h] at hk; cases hk
      exact eval_came hd a0 (came listed) vs k t hk2 hk hLk ht ops.size (Nat.le_refl _) hk2
    refine hK _ _ ?_
    rw [← hdst, put_all hd a0 (came listed) vs i u hio hcf, ← came_set listed i hi]
    refine ih _ _ _ (by simp [hs]) ?_ (by rw [came_set listed i hi]; exact hJ')
    have h1 : listed[i] = false := by simpa [hi] using hf
    have h2 : (listed.setIfInBounds i true).count false = listed.count false - 1 := by
      rw [Array.setIfInBounds, dif_pos hi, Array.count_set]
      simp [h1]
    omega
/-- **The law**: each operation, whenever it may come, keeps J; where all have come, J leads on. -/
theorem wp_region_inv {id : Nat} {a : Act} {w : World} (hm : P.follows .mixedOrders = true) (hd : distinctB ops = true) (hb : backB ops = true) (J : (Nat → Bool) → (Nat → Value) → World → Prop)
    (h0 : J (fun _ => false) (fun _ => undef) w.drew)
    (hstep : ∀ i, i < ops.size → StepOk P ops Q a J i)
    (hend : ∀ vs w L, (∀ j, j < ops.size → L j = true) → J L vs w → Q .normal (putAll ops a (fun _ => true) vs ops.size) w) : (Code.region id ops true).wp P Q a w := by
  refine wp_region_any hm ?_
  have hc : came (Array.replicate ops.size false) = fun _ => false := by
    funext j
    unfold came
    rcases Nat.lt_or_ge j ops.size with h | h <;> simp [h]
  have ha : putAll ops a (fun _ => false) (fun _ => undef) ops.size = a := by
    have : ∀ n, putAll ops a (fun _ => false) (fun _ => undef) n = a := by
      intro n
      induction n with
      | zero => rfl
      | succ n ih => rw [putAll, if_neg (by simp)]; exact ih
    exact this _
  have := wpAny_inv hd hb a J hstep hend ops.size (Array.replicate ops.size false) (fun _ => undef) w.drew (by simp) (by simp) (by rw [hc]; exact h0)
  rw [hc, ha] at this
  exact this
end
/-! Single operations, over a frame that is a letter. -/
theorem wp_load_row {P : Program} {o : Oper} {a : Act} {w : World} {K : Act → World → Prop} {Q : Exit → Act → World → Prop} (ty : TypeId) (x : Operand) (ho : o.op = .load ty x) (g : Nat) (hx : a.eval x = .pointer (some ⟨g, 0, none⟩)) (t : TypeId) (cs : Array Value) (d : TypeDesc) (hg : w.heap[g]? = some (.cells cs t (0, 0)))
    (hu : P.underlying ty = some d) (hd : (match d with | .struct _ | .array _ _ => true | _ => false) = true) (hi : (P.info? ty).map (·.size) = some cs.size) (h : K (a.put o.dst (.agg cs)) w) : o.wp P a w K Q := by
  unfold Oper.wp execOp
  simp only [ho, hx, Instr.loadAt, Instr.sureAddr, Sem.run_bind, Sem.run_pure, Result.andThen_ok, run_loadVar_row w g t ty cs (0, 0) d hg hu hd hi]
  exact h
theorem run_index_arr {P : Program} (t e n : Nat) (cs : Array Value) (d : TypeDesc) (hd : (match d with | .struct _ | .array _ _ => true | _ => false) = false) (i : Nat) (v : Value) (hu : P.underlying t = some (.array n e)) (he : P.underlying e = some d) (hs : (P.info? e).map (·.size) = some 1) (hi : i < n) (hv : cs[i]? = some v) (w : World) :
    (Instr.index t (.agg cs) (.int .i64 (i : Int))).run P w = .ok v w := by
  cases hq : P.info? e with
  | none => simp [hq] at hs
  | some x =>
    have hx : x.size = 1 := by simpa [hq] using hs
    have hag : (isAgg e).run P w = .ok false w := by
      cases d <;> simp_all [isAgg, run_underlying he]
    simp [Instr.index, asIntOf, run_underlying hu, sizeOf, typeInfo, hq, hx, part, hag, hv]
    intro h
    omega
/-- Cells laid over the head of a block's, from place i on. -/
def overlay (cur : Array Value) : List Value → Nat → Array Value
  | [], _ => cur
  | v :: vs, i => overlay (cur.setIfInBounds i v) vs (i + 1)
theorem setRow_self (w : World) (g : Nat) (cur : Array Value) (t : TypeId) (hg : w.heap[g]? = some (.cells cur t (0, 0))) : w.setRow g cur = w := by
  have hlt : g < w.heap.size := (Array.getElem?_eq_some_iff.1 hg).1
  have hv : w.heap[g] = .cells cur t (0, 0) := (Array.getElem?_eq_some_iff.1 hg).2
  cases w with
  | mk heap tape drawn os output =>
    simp only [World.setRow]
    congr 1
    apply Array.ext
    · simp
    · intro k h1 h2
      simp only [Array.getElem_modify]
      split
      · rename_i hk; subst hk; simp at hv; simp [hv]
      · rfl
theorem run_storeCells_over {P : Program} (g : Nat) (t : TypeId) : ∀ (vs : List Value) (i : Nat) (cur : Array Value) (w : World), w.heap[g]? = some (.cells cur t (0, 0)) → i + vs.length ≤ cur.size → (∀ v ∈ vs, v.oneCell' = true) →
    (storeCells ⟨g, 0, none⟩ vs i).run P w = .ok () (w.setRow g (overlay cur vs i))
  | [], i, cur, w, hg, hl, _ => by simp only [storeCells, overlay, setRow_self w g cur t hg]; rfl
  | v :: rest, i, cur, w, hg, hl, h1 => by
    have hi : i < cur.size := by simp at hl; omega
    have hadd : (⟨g, 0, none⟩ : Addr).add i = ⟨g, i, none⟩ := by unfold Addr.add; split <;> simp_all
    have hcell : w.cell? ⟨g, i, none⟩ = some cur[i] := by simp [World.cell?, hg, hi]
    have hfro : w.frozen? ⟨g, i, none⟩ = false := by simp [World.frozen?, hg]
    have hst : (store ((⟨g, 0, none⟩ : Addr).add i) v).run P w = .ok () (w.setRow g (cur.setIfInBounds i v)) := by
      rw [hadd, run_store P w _ v _ (h1 v (by simp)), hcell]
      simp [hfro, setCell_eq_setRow w g i cur t (0, 0) v hg]
    have ih := run_storeCells_over (P := P) g t rest (i + 1) (cur.setIfInBounds i v) (w.setRow g (cur.setIfInBounds i v)) (setRow_heap w g cur _ t _ hg) (by simp at hl ⊢; omega) (fun x hx => h1 x (by simp [hx]))
    simp only [storeCells, Sem.run_bind, hst, Result.andThen_ok, ih, setRow_setRow, overlay]
theorem wp_store_over {P : Program} {o : Oper} {a : Act} {w : World} {K : Act → World → Prop} {Q : Exit → Act → World → Prop} (ty : TypeId) (x y : Operand) (ho : o.op = .store ty x y)
    (g : Nat) (new : Array Value) (hx : a.eval x = .pointer (some ⟨g, 0, none⟩)) (hy : a.eval y = .agg new)
    (t : TypeId) (old : Array Value) (hg : w.heap[g]? = some (.cells old t (0, 0))) (hi : (P.info? ty).map (·.size) = some new.size)
    (hold : new.size ≤ old.size) (h1 : new.all (·.oneCell') = true)
    (h : K (a.put o.dst undef) (w.setRow g (overlay old new.toList 0))) : o.wp P a w K Q := by
  have hr := run_storeCells_over (P := P) g t new.toList 0 old w hg (by simpa using hold) (fun v hv => (Array.all_eq_true_iff_forall_mem.1 h1) v (by simpa using hv))
  have hs : (storeVar ty ⟨g, 0, none⟩ (.agg new)).run P w = .ok () (w.setRow g (overlay old new.toList 0)) := by
    cases hq : P.info? ty with
    | none => simp [hq] at hi
    | some i =>
      have hz : new.size = i.size := by simp [hq] at hi; omega
      simp [storeVar, sizeOf, typeInfo, hq, Value.cells, hz, hr]
  unfold Oper.wp execOp
  simp only [ho, hx, hy, Instr.storeAt, Instr.sureAddr, Sem.run_bind, Sem.run_pure, Result.andThen_ok, hs]
  exact h
theorem run_load_cells {P : Program} (w : World) (ad : Addr) (ty : TypeId) (cs : Array Value) (d : TypeDesc) (hd : (match d with | .struct _ | .array _ _ => true | _ => false) = true) (hc : ∀ j v, cs[j]? = some v → w.cell? (ad.add j) = some v)
    (hu : P.underlying ty = some d) (hi : (P.info? ty).map (·.size) = some cs.size) : (Instr.loadAt ty (.pointer (some ad))).run P w = .ok (.agg cs) w := by
  have hl : (loadCells ad cs.toList.length).run P w = .ok cs.toList.toArray w := run_loadCells_list (P := P) w ad cs.toList (fun j v hv => hc j v (by simpa using hv))
  cases hq : P.info? ty with
  | none => simp [hq] at hi
  | some i =>
    have hs : i.size = cs.size := by simpa [hq] using hi
    have hagg : (isAgg ty).run P w = .ok true w := by
      cases d <;> simp_all [isAgg, run_underlying hu]
    have hl2 : (loadCells ad cs.size).run P w = .ok cs w := by simpa using hl
    simp [Instr.loadAt, Instr.sureAddr, loadVar, hagg, sizeOf, typeInfo, hq, hs, hl2]
/-- An operation that hands back a value. -/
theorem wp_val {P : Program} {o : Oper} {a : Act} {w : World} {K : Act → World → Prop} {Q : Exit → Act → World → Prop} (v : Value) (hr : (execOp a.eval o).run P w = .ok (.value v) w) (h : K (a.put o.dst v) w) : o.wp P a w K Q := by
  unfold Oper.wp
  rw [hr]
  exact h
theorem wp_load_cells {P : Program} {o : Oper} {a : Act} {w : World} {K : Act → World → Prop} {Q : Exit → Act → World → Prop} (ty : TypeId) (x : Operand) (ho : o.op = .load ty x) (ad : Addr) (hx : a.eval x = .pointer (some ad)) (cs : Array Value) (d : TypeDesc) (hd : (match d with | .struct _ | .array _ _ => true | _ => false) = true) (hc : ∀ j v, cs[j]? = some v → w.cell? (ad.add j) = some v)
    (hu : P.underlying ty = some d) (hi : (P.info? ty).map (·.size) = some cs.size) (h : K (a.put o.dst (.agg cs)) w) : o.wp P a w K Q := by
  refine wp_val (.agg cs) ?_ h
  have := run_load_cells w ad ty cs d hd hc hu hi
  unfold execOp
  simp only [ho, hx, this, Sem.run_bind, Sem.run_pure, Result.andThen_ok]
/-- Values that are known ahead. -/
def Vals (val : Nat → Value) (n : Nat) (L : Nat → Bool) (vs : Nat → Value) : Prop := ∀ i, i < n → L i = true → vs i = val i
theorem Vals.start (val : Nat → Value) (n : Nat) : Vals val n (fun _ => false) (fun _ => undef) := fun _ _ h => by cases h
theorem Vals.step {val : Nat → Value} {n : Nat} {L : Nat → Bool} {vs : Nat → Value} (h : Vals val n L vs) (i : Nat) (u : Value) (hu : i < n → u = val i) : Vals val n (upd L i true) (upd vs i u) := by
  intro k hk hL
  by_cases e : k = i
  · subst e; rw [upd_same]; exact hu hk
  · rw [upd_other vs u e]; rw [upd_other L true e] at hL; exact h k hk hL
theorem wp_alloc_z {P : Program} {o : Oper} {a : Act} {w : World} {K : Act → World → Prop} {Q : Exit → Act → World → Prop} (ty : TypeId) (ho : o.op = .alloc ty) (z : Value) (hz : (P.info? ty).map (·.zero) = some (some z))
    (h : K (a.put o.dst (.pointer (some ⟨w.heap.size, 0, none⟩))) (w.alloc (.cells z.cells ty))) : o.wp P a w K Q := by
  have hr : (Instr.alloc ty true (.tuple #[])).run P w = .ok (.pointer (some ⟨w.heap.size, 0, none⟩)) (w.alloc (.cells z.cells ty)) := by
    cases hq : P.info? ty with
    | none => simp [hq] at hz
    | some i =>
      have hz2 : i.zero = some z := by simpa [hq] using hz
      simp [Instr.alloc, zeroValue, typeInfo, hq, hz2, newVar, go_sem]
  unfold Oper.wp execOp
  simp only [ho, Sem.run_bind, Sem.run_pure, Result.andThen_ok, hr]
  exact h
theorem wp_call_fn {P : Program} {o : Oper} {a : Act} {w : World} {K : Act → World → Prop} {Q : Exit → Act → World → Prop} (f : FuncId) (xs : Array Operand) (ts : Array TypeId) (ho : o.op = .call { callee := .value (.func f), args := xs, argTypes := ts }) (fn : Func) (c : Code) (hf : P.funcs[f]? = some fn) (hname : (fn.name == "runtime.NumGoroutine") = false) (hb : fn.body = some c)
    (args : Array Value) (hx : xs.map a.eval = args) (h : Calls P f args w fun e w' => ∃ v, e = .returned v ∧ K (a.put o.dst v) w') : o.wp P a w K Q := by
  have h1 : fn.name ≠ "runtime.NumGoroutine" := by simpa using hname
  have hr : (callFunc f args).run P w = .ok (.enter f args) w := by simp [callFunc, hf, h1, hb]
  have he : a.eval (.func f) = .func (.func f) #[] #[] := rfl
  unfold Oper.wp execOp
  simp only [ho, resolve, hx, he, Deferred.ofValue, invoke, Sem.run_bind, Sem.run_pure, Result.andThen_ok, Array.append_empty, Array.empty_append, hr]
  rw [Oper.upon_enter]
  refine h.mono ?_
  rintro e w' ⟨v, rfl, hk⟩
  exact hk
end Go.Proofs.Ytjaakhjfpigdfaa
