import Derived.Test.YtinkcffkhbaleaaLE
/-! A row of digests of one's own; rows that are alike up to a number. -/
namespace Go.Proofs.Ytinkcffkhbaleaa
open Go.RowKit
set_option linter.unusedVariables false
set_option linter.unusedSimpArgs false
/-- A row of digests in a block of one's own, which may be written. -/
def OwnD (w : World) (base : Nat) (B : Option Addr) (l : List (List (BitVec 8))) : Prop :=
  l.length ≤ 9223372036854775807 ∧ ∀ j (h : j < l.length), l[j].length = 32 ∧ ∃ g, B = some ⟨g, 0, none⟩ ∧ base ≤ g ∧ ∀ i, i < 32 → w.cell? ⟨g, j * 32 + i, none⟩ = (digV l[j])[i]? ∧ w.frozen? ⟨g, j * 32 + i, none⟩ = false
theorem add_zero_at (b o j : Nat) : (⟨b, o, none⟩ : Addr).add j = ⟨b, o + j, none⟩ := by unfold Addr.add; split <;> simp_all
theorem OwnD.rd {w : World} {base : Nat} {B : Option Addr} {l : List (List (BitVec 8))} (h : OwnD w base B l) : RdD w B l :=
  ⟨h.1, fun j hj => by
    obtain ⟨h32, g, rfl, _, hc⟩ := h.2 j hj
    refine ⟨h32, _, rfl, fun i v hv => ?_⟩
    have hi : i < 32 := by have := (List.getElem?_eq_some_iff.1 hv).1; rw [digV_len] at this; omega
    rw [add_zero_at, add_zero_at, Nat.zero_add, (hc i hi).1]
    exact hv⟩
theorem OwnD.below {w w' : World} {base : Nat} {B : Option Addr} {l : List (List (BitVec 8))} (h : OwnD w base B l) (hb : Below w.heap.size w w') : OwnD w' base B l :=
  ⟨h.1, fun j hj => by
    obtain ⟨h32, g, e, hg, hc⟩ := h.2 j hj
    refine ⟨h32, g, e, hg, fun i hi => ?_⟩
    have hlt : g < w.heap.size := by
      have h0 := (hc i hi).1
      rw [List.getElem?_eq_getElem (by rw [digV_len]; omega)] at h0
      exact World.block_lt_of_cell? w ⟨g, j * 32 + i, none⟩ h0
    exact ⟨(hb.cell (p := ⟨g, j * 32 + i, none⟩) hlt).trans (hc i hi).1, (hb.frozen (p := ⟨g, j * 32 + i, none⟩) hlt).trans (hc i hi).2⟩⟩
theorem OwnD.there {w : World} {base : Nat} {g : Nat} {l : List (List (BitVec 8))} (h : OwnD w base (some ⟨g, 0, none⟩) l) (j : Nat) (hj : j < l.length) : w.there g (j * 32) 32 := fun i hi => by
  obtain ⟨h32, g', e, _, hc⟩ := h.2 j hj
  cases e
  refine ⟨?_, (hc i hi).2⟩
  rw [(hc i hi).1, List.getElem?_eq_getElem (by rw [digV_len]; omega)]
  rfl
/-- A digest stored. -/
theorem OwnD.set {w : World} {base : Nat} {g : Nat} {l : List (List (BitVec 8))} (h : OwnD w base (some ⟨g, 0, none⟩) l) (j : Nat) (hj : j < l.length) (d : List (BitVec 8)) (hd : d.length = 32) :
    OwnD (w.setCells g (j * 32) (digV d)) base (some ⟨g, 0, none⟩) (l.set j d) := by
  have hdl : (digV d).length = 32 := by rw [digV_len, hd]
  refine ⟨by rw [List.length_set]; exact h.1, fun k hk => ?_⟩
  rw [List.length_set] at hk
  obtain ⟨h32, g', e, hg, hc⟩ := h.2 k hk
  cases e
  by_cases hjk : j = k
  · subst hjk
    refine ⟨by simp [hd], g, rfl, hg, fun i hi => ⟨?_, by rw [World.frozen?_setCells]; exact (hc i hi).2⟩⟩
    rw [World.cell?_setCells_in g (digV d) (j * 32) w (fun i hi => (h.there j hj i (by omega)).1) i (by omega)]
    simp [List.getElem?_eq_getElem (show i < (digV d).length by omega)]
  · refine ⟨by rw [List.getElem_set_ne hjk]; exact h32, g, rfl, hg, fun i hi => ⟨?_, by rw [World.frozen?_setCells]; exact (hc i hi).2⟩⟩
    rw [World.cell?_setCells_out g (digV d) (j * 32) w _ (fun _ _ => by simp only []; omega), (hc i hi).1, List.getElem_set_ne hjk]
/-- A digest's first byte, turned. -/
def flip (d : List (BitVec 8)) : List (BitVec 8) := d.set 0 (d.getD 0 0 ^^^ 1)
theorem flip_len (d : List (BitVec 8)) : (flip d).length = d.length := by simp [flip]
theorem flip_ne (d : List (BitVec 8)) (h : d.length = 32) : flip d ≠ d := by
  intro e
  have h0 : (flip d)[0]? = d[0]? := by rw [e]
  unfold flip at h0
  rw [List.getElem?_set_self (by omega), List.getD_eq_getElem?_getD, List.getElem?_eq_getElem (show 0 < d.length by omega)] at h0
  simp at h0
  have h1 := congrArg (fun x => d[0] ^^^ x) h0
  simp [← BitVec.xor_assoc] at h1
theorem OwnD.flip {w : World} {base : Nat} {g : Nat} {l : List (List (BitVec 8))} (h : OwnD w base (some ⟨g, 0, none⟩) l) (j : Nat) (hj : j < l.length) :
    OwnD (w.setCell ⟨g, j * 32, none⟩ (.int .u8 ((l[j].getD 0 0 ^^^ 1).toNat : Int))) base (some ⟨g, 0, none⟩) (l.set j (flip l[j])) := by
  refine ⟨by rw [List.length_set]; exact h.1, fun k hk => ?_⟩
  rw [List.length_set] at hk
  obtain ⟨h32, g', e, hg, hc⟩ := h.2 k hk
  cases e
  obtain ⟨u, hu⟩ := Option.isSome_iff_exists.1 (h.there j hj 0 (by omega)).1
  rw [Nat.add_zero] at hu
  by_cases hjk : j = k
  · subst hjk
    refine ⟨by simp [flip_len, h32], g, rfl, hg, fun i hi => ⟨?_, by rw [World.frozen?_setCell]; exact (hc i hi).2⟩⟩
    by_cases hi0 : i = 0
    · subst hi0
      rw [Nat.add_zero, World.cell?_setCell_same _ _ _ hu]
      simp [Ytinkcffkhbaleaa.flip, digV, h32]
    · rw [World.cell?_setCell_other _ _ _ _ (by first | (simp; done) | (simp; omega)), (hc i hi).1]
      simp [Ytinkcffkhbaleaa.flip, digV, List.getElem?_set_ne (show (0 : Nat) ≠ i by omega)]
  · refine ⟨by rw [List.getElem_set_ne hjk]; exact h32, g, rfl, hg, fun i hi => ⟨?_, by rw [World.frozen?_setCell]; exact (hc i hi).2⟩⟩
    rw [World.cell?_setCell_other _ _ _ _ (by first | (simp; done) | (simp; omega)), (hc i hi).1, List.getElem_set_ne hjk]
theorem flat_len (l : List (List (BitVec 8))) (h : ∀ d ∈ l, d.length = 32) : (l.flatMap digV).length = l.length * 32 := by
  induction l with
  | nil => rfl
  | cons d l ih =>
    rw [List.flatMap_cons, List.length_append, ih (fun d hd => h d (by simp [hd])), digV_len, h d (by simp), List.length_cons]
    omega
theorem flat_get (l : List (List (BitVec 8))) (h : ∀ d ∈ l, d.length = 32) (j i : Nat) (hj : j < l.length) (hi : i < 32) : (l.flatMap digV)[j * 32 + i]? = (digV l[j])[i]? := by
  induction l generalizing j with
  | nil => simp at hj
  | cons d l ih =>
    have hd : (digV d).length = 32 := by rw [digV_len]; exact h d (by simp)
    rw [List.flatMap_cons]
    cases j with
    | zero => rw [List.getElem?_append_left (by omega)]; simp
    | succ j =>
      rw [List.getElem?_append_right (by omega), hd, show (j + 1) * 32 + i - 32 = j * 32 + i by omega]
      exact ih (fun d hd => h d (by simp [hd])) j (by simpa using hj)
theorem RdD.all32 {w : World} {A : Option Addr} {l : List (List (BitVec 8))} (h : RdD w A l) : ∀ d ∈ l, d.length = 32 := by
  intro d hd
  obtain ⟨j, hj, rfl⟩ := List.getElem_of_mem hd
  exact (h.2 j hj).1
theorem RdD.flat {w : World} {ad : Addr} {l : List (List (BitVec 8))} (h : RdD w (some ad) l) : ∀ j u, (l.flatMap digV)[j]? = some u → w.cell? (ad.add j) = some u := by
  intro j u hu
  have hlt := (List.getElem?_eq_some_iff.1 hu).1
  rw [flat_len l h.all32] at hlt
  have hj : j / 32 < l.length := by omega
  have e : j = j / 32 * 32 + j % 32 := by omega
  rw [e, flat_get l h.all32 _ _ hj (Nat.mod_lt _ (by omega))] at hu
  obtain ⟨_, ad', e2, hc⟩ := h.2 (j / 32) hj
  cases e2
  have := hc _ _ hu
  rw [add_add', ← e] at this
  exact this
theorem flat_one (l : List (List (BitVec 8))) : ∀ u ∈ l.flatMap digV, u.oneCell' = true := by
  intro u hu
  obtain ⟨d, _, hd⟩ := List.mem_flatMap.1 hu
  simp only [digV, List.map_map, List.mem_map] at hd
  obtain ⟨x, _, rfl⟩ := hd
  rfl
theorem OwnD.own {w : World} {base : Nat} {v : Value} {n : Nat} {l : List (List (BitVec 8))} (h32 : ∀ d ∈ l, d.length = 32) (hn : n = l.length) (h : w.ownsRow base 47 32 v n (l.flatMap digV)) : ∃ B cap, v = .slice B l.length cap ∧ l.length ≤ cap ∧ OwnD w base B l := by
  subst hn
  rcases h.2 with ⟨rfl, h0⟩ | ⟨g, cap, cur, rfl, hb, hgg, h1, h2, _⟩
  · exact ⟨none, 0, by rw [h0], by omega, by rw [h0]; omega, fun j hj => by omega⟩
  · refine ⟨_, cap, rfl, h1, by unfold maxLen at h2; omega, fun j hj => ⟨h32 _ (List.getElem_mem hj), g, rfl, hb, fun i hi => ⟨?_, h.frozenAt _⟩⟩⟩
    rw [← flat_get l h32 j i hj hi]
    have hlt : j * 32 + i < (l.flatMap digV).length := by rw [flat_len l h32]; omega
    rw [List.getElem?_eq_getElem hlt]
    have := h.cells (g := g) rfl (j * 32 + i) _ (List.getElem?_eq_getElem hlt)
    rw [add_zero_at, Nat.zero_add] at this
    exact this

/-! ### The row that is alike up to k -/
def oneB (la lb : List (List (BitVec 8))) (k j : Nat) : List (BitVec 8) := if j < k then la.getD j [] else if lb.getD j [] == la.getD j [] then flip (lb.getD j []) else lb.getD j []
/-- The row behind i rounds. -/
def partB (la lb : List (List (BitVec 8))) (k : Nat) : Nat → List (List (BitVec 8))
  | 0 => lb
  | i + 1 => (partB la lb k i).set i (oneB la lb k i)
theorem partB_len (la lb : List (List (BitVec 8))) (k : Nat) : ∀ i, (partB la lb k i).length = lb.length
  | 0 => rfl
  | i + 1 => by rw [partB, List.length_set]; exact partB_len la lb k i
theorem partB_get (la lb : List (List (BitVec 8))) (k : Nat) : ∀ i j, (partB la lb k i)[j]? = if j < i ∧ j < lb.length then some (oneB la lb k j) else lb[j]?
  | 0, j => by simp [partB]
  | i + 1, j => by
    rw [partB, List.getElem?_set, partB_get la lb k i j, partB_len]
    by_cases h : i = j
    · subst h
      by_cases hl : i < lb.length
      · simp [hl]
      · simp [hl]
    · simp only [h, if_false]
      by_cases h2 : j < i
      · simp [h2, show j < i + 1 by omega]
      · simp [h2, show ¬ j < i + 1 by omega]
theorem partB_at (la lb : List (List (BitVec 8))) (k i : Nat) (h : i < lb.length) (h2 : i < (partB la lb k i).length) : (partB la lb k i)[i] = lb[i] := by
  have := partB_get la lb k i i
  rw [List.getElem?_eq_getElem h2] at this
  simpa [List.getElem?_eq_getElem h] using this
/-- .. is alike just up to k. -/
theorem partB_alike (la lb : List (List (BitVec 8))) (k m : Nat) (hm : m = min la.length lb.length) (hb32 : ∀ d ∈ lb, d.length = 32) (q : Nat) (h1 : q < m) :
    alD la (partB la lb k m) ((q : Int) + 1) = decide (q < k) := by
  have hqa : q < la.length := by omega
  have hqb : q < lb.length := by omega
  unfold alD
  rw [show ((q : Int) + 1 - 1).toNat = q by omega, List.getD_eq_getElem?_getD, List.getD_eq_getElem?_getD, partB_get, if_pos ⟨h1, hqb⟩, List.getElem?_eq_getElem hqa]
  simp only [Option.getD_some]
  unfold oneB
  simp only [List.getD_eq_getElem?_getD, List.getElem?_eq_getElem hqa, List.getElem?_eq_getElem hqb, Option.getD_some]
  by_cases hk : q < k
  · simp [hk]
  · simp only [hk, if_false, decide_false]
    split
    · rename_i h
      have e := beq_iff_eq.1 h
      rw [← e]
      exact beq_eq_false_iff_ne.2 (Ne.symm (flip_ne _ (hb32 _ (List.getElem_mem hqb))))
    · rename_i h
      exact beq_eq_false_iff_ne.2 (fun e => h (beq_iff_eq.2 e.symm))
theorem find_just (la lb : List (List (BitVec 8))) (k m : Nat) (hm : m = min la.length lb.length) (hk : k ≤ m) (hb32 : ∀ d ∈ lb, d.length = 32) (la3 : la.length ≤ 3000) (lb3 : lb.length ≤ 3000) :
    ∃ T : Int × Int × Nat, Ends (alD la (partB la lb k m)) (0, begHi la.length (partB la lb k m).length, 0) T ∧ T.1 = k := by
  obtain ⟨T, n, hT, hTn, hna, hnb, hlow, hhigh⟩ := find_edge la (partB la lb k m) la3 (by rw [partB_len]; exact lb3)
  refine ⟨T, hT, ?_⟩
  rw [partB_len] at hnb hhigh
  have h1 : n ≤ k := by
    rcases hlow with h | h
    · omega
    · rcases Nat.eq_zero_or_pos n with h0 | h0
      · omega
      · obtain ⟨q, rfl⟩ : ∃ q, n = q + 1 := ⟨n - 1, by omega⟩
        have := partB_alike la lb k m hm hb32 q (by omega)
        rw [show ((q + 1 : Nat) : Int) = (q : Int) + 1 by push_cast; rfl, this] at h
        have := of_decide_eq_true h
        omega
  have h2 : k ≤ n := by
    rcases hhigh with h | h
    · omega
    · by_cases hnm : n < m
      · rw [partB_alike la lb k m hm hb32 n hnm] at h
        have := of_decide_eq_false h
        omega
      · omega
  omega
end Go.Proofs.Ytinkcffkhbaleaa
