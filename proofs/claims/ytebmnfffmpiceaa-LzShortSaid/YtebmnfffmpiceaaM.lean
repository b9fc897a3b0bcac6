import Derived.KernelRfl
/-! Tokens, repetitions: plain laws. No program is named here. -/
namespace Go.Proofs.Ytebmnfffmpiceaa
set_option linter.unusedVariables false
set_option linter.unusedSimpArgs false
/-- A token: how far ahead, how long, which byte. -/
abbrev Tok := Int × Int × BitVec 8
abbrev By := List (BitVec 8)
def okT (t : Tok) : Prop := (t.1 = 0 ∧ t.2.1 = 1) ∨ (1 ≤ t.1 ∧ t.1 ≤ 4096 ∧ 4 ≤ t.2.1 ∧ t.2.1 ≤ 258 ∧ t.2.2 = 0)
instance (t : Tok) : Decidable (okT t) := by unfold okT; infer_instance
def checkT (t : Tok) : Int := if okT t then 0 else 60
theorem ok_len {t : Tok} (h : okT t) : 1 ≤ t.2.1 ∧ t.2.1 ≤ 258 ∧ 0 ≤ t.1 := by unfold okT at h; omega
/-- How many bytes. -/
def sumT : List Tok → Int
  | [] => 0
  | t :: l => t.2.1 + sumT l
theorem sumT_app : ∀ p q : List Tok, sumT (p ++ q) = sumT p + sumT q
  | [], q => by simp [sumT]
  | t :: p, q => by rw [List.cons_append, sumT, sumT, sumT_app p q]; omega
theorem sumT_snoc (l : List Tok) (k : Nat) (h : k < l.length) : sumT (l.take (k + 1)) = sumT (l.take k) + l[k].2.1 := by
  rw [List.take_succ_eq_append_getElem h, sumT_app]; simp [sumT]
theorem sumT_nonneg : ∀ l : List Tok, (∀ t ∈ l, okT t) → 0 ≤ sumT l ∧ sumT l ≤ 258 * l.length
  | [], _ => by simp [sumT]
  | t :: l, h => by
    have h1 := ok_len (h t (by simp))
    have h2 := sumT_nonneg l (fun x hx => h x (by simp [hx]))
    rw [sumT, List.length_cons]; omega
theorem sumT_le (l : List Tok) (h : ∀ t ∈ l, okT t) (k : Nat) : 0 ≤ sumT (l.take k) ∧ sumT (l.take k) ≤ sumT l ∧ sumT (l.take k) ≤ 258 * k := by
  have h1 := sumT_nonneg (l.take k) (fun t ht => h t (List.mem_of_mem_take ht))
  have h2 := sumT_nonneg (l.drop k) (fun t ht => h t (List.mem_of_mem_drop ht))
  have h3 := sumT_app (l.take k) (l.drop k)
  rw [List.take_append_drop] at h3
  have := List.length_take_le k l
  omega
def allOk (l : List Tok) : Bool := l.all fun t => decide (okT t)
theorem allOk_iff (l : List Tok) : allOk l = true ↔ ∀ t ∈ l, okT t := by simp [allOk]
def sizeT (l : List Tok) : Int × Int := if allOk l then (if 65536 < sumT l then (0, 2) else (sumT l, 0)) else (0, 60)

/-- How many bytes at q are those at p, at most f more. -/
def reachF (b : By) (p q : Nat) : Nat → Nat → Nat
  | 0, n => n
  | f + 1, n => if q + n < b.length ∧ b[p + n]? = b[q + n]? then reachF b p q f (n + 1) else n
def reachN (b : By) (p q : Nat) : Nat := reachF b p q 258 0
theorem reachF_spec (b : By) (p q : Nat) : ∀ (f n : Nat), n ≤ reachF b p q f n ∧ reachF b p q f n ≤ n + f ∧ (∀ j, n ≤ j → j < reachF b p q f n → q + j < b.length ∧ b[p + j]? = b[q + j]?) ∧ (reachF b p q f n = n + f ∨ ¬ (q + reachF b p q f n < b.length ∧ b[p + reachF b p q f n]? = b[q + reachF b p q f n]?))
  | 0, n => by
    simp only [reachF]
    exact ⟨Nat.le_refl _, Nat.le_refl _, fun j h1 h2 => by omega, Or.inl rfl⟩
  | f + 1, n => by
    unfold reachF
    split
    · rename_i h
      obtain ⟨a, b', c, d⟩ := reachF_spec b p q f (n + 1)
      refine ⟨by omega, by omega, fun j h1 h2 => ?_, ?_⟩
      · rcases Nat.eq_or_lt_of_le h1 with rfl | h1
        · exact h
        · exact c j h1 h2
      · rcases d with d | d
        · exact Or.inl (by omega)
        · exact Or.inr d
    · rename_i h
      exact ⟨Nat.le_refl _, by omega, fun j h1 h2 => by omega, Or.inr h⟩
theorem reachN_le (b : By) (p q : Nat) : reachN b p q ≤ 258 := by have := (reachF_spec b p q 258 0).2.1; unfold reachN; omega
theorem reachN_in (b : By) (p q : Nat) (j : Nat) (h : j < reachN b p q) : q + j < b.length ∧ b[p + j]? = b[q + j]? := (reachF_spec b p q 258 0).2.2.1 j (Nat.zero_le _) h
theorem reachN_end (b : By) (p q : Nat) : reachN b p q = 258 ∨ ¬ (q + reachN b p q < b.length ∧ b[p + reachN b p q]? = b[q + reachN b p q]?) := by
  have := (reachF_spec b p q 258 0).2.2.2
  unfold reachN
  rcases this with h | h
  · exact Or.inl (by omega)
  · exact Or.inr h
theorem reachN_room (b : By) (p q : Nat) (h : q ≤ b.length) : q + reachN b p q ≤ b.length := by
  rcases Nat.eq_zero_or_pos (reachN b p q) with h0 | h0
  · omega
  · have := (reachN_in b p q (reachN b p q - 1) (by omega)).1; omega
/-- The four bytes at a place. -/
def keyAt (b : By) (i : Nat) : By := (b.drop i).take 4
theorem keyAt_len (b : By) (i : Nat) (h : i + 4 ≤ b.length) : (keyAt b i).length = 4 := by unfold keyAt; rw [List.length_take, List.length_drop]; omega
theorem reachF_four (b : By) (p q : Nat) (hp : p < q) (hq : q + 4 ≤ b.length) : 4 ≤ reachN b p q ↔ keyAt b p = keyAt b q := by
  have g : ∀ (i j : Nat), i + 4 ≤ b.length → (keyAt b i)[j]? = if j < 4 then b[i + j]? else none := by
    intro i j hi
    unfold keyAt
    rw [List.getElem?_take]
    split
    · rw [List.getElem?_drop]
    · rfl
  constructor
  · intro h
    apply List.ext_getElem?
    intro j
    rw [g p j (by omega), g q j hq]
    split
    · exact (reachN_in b p q j (by omega)).2
    · rfl
  · intro h
    rcases Nat.lt_or_ge (reachN b p q) 4 with hl | hl
    · rcases reachN_end b p q with e | e
      · omega
      · exfalso
        apply e
        refine ⟨by omega, ?_⟩
        have this : (keyAt b p)[reachN b p q]? = (keyAt b q)[reachN b p q]? := by rw [h]
        rw [g p _ (by omega), g q _ hq, if_pos hl, if_pos hl] at this
        exact this
    · exact hl
/-- The best copy, one more distance tried. -/
def stepT (b : By) (at' : Nat) (t : Nat × Nat) (d : Nat) : Nat × Nat := if d ≤ 4096 ∧ 4 ≤ reachN b (at' - d) at' ∧ t.2 < reachN b (at' - d) at' then (d, reachN b (at' - d) at') else t
def foldT (b : By) (at' : Nat) : Nat → Nat × Nat
  | 0 => (0, 1)
  | d + 1 => stepT b at' (foldT b at' d) (d + 1)
theorem foldT_spec (b : By) (at' : Nat) : ∀ d, (foldT b at' d = (0, 1)) ∨ (1 ≤ (foldT b at' d).1 ∧ (foldT b at' d).1 ≤ d ∧ (foldT b at' d).1 ≤ 4096 ∧ 4 ≤ (foldT b at' d).2 ∧ (foldT b at' d).2 = reachN b (at' - (foldT b at' d).1) at')
  | 0 => Or.inl rfl
  | d + 1 => by
    have ih := foldT_spec b at' d
    unfold foldT stepT
    split
    · rename_i h
      exact Or.inr ⟨by simp, by simp, by simpa using h.1, by simpa using h.2.1, by simp⟩
    · rcases ih with ih | ih
      · exact Or.inl ih
      · exact Or.inr ⟨ih.1, by omega, ih.2.2⟩
theorem foldT_len (b : By) (at' d : Nat) : 1 ≤ (foldT b at' d).2 ∧ (foldT b at' d).2 ≤ 258 ∧ (foldT b at' d).1 ≤ 4096 ∧ (foldT b at' d).1 ≤ d := by
  rcases foldT_spec b at' d with h | ⟨h1, h2, h3, h4, h5⟩
  · rw [h]; simp
  · have := reachN_le b (at' - (foldT b at' d).1) at'
    omega
theorem foldT_stay (b : By) (at' k : Nat) : ∀ m, k ≤ m → (∀ d, k < d → d ≤ m → 4096 < d ∨ reachN b (at' - d) at' < 4 ∨ reachN b (at' - d) at' ≤ (foldT b at' k).2) → foldT b at' m = foldT b at' k
  | 0, h, _ => by rw [Nat.le_zero.1 h]
  | m + 1, h, hd => by
    rcases Nat.eq_or_lt_of_le h with rfl | h
    · rfl
    · have ih := foldT_stay b at' k m (by omega) (fun d h1 h2 => hd d h1 (by omega))
      have h0 := hd (m + 1) (by omega) (Nat.le_refl _)
      rw [foldT, ih, stepT, if_neg (by omega)]
def longT (b : By) (at' : Nat) : Nat × Nat := foldT b at' at'
theorem longT_cap (b : By) (at' : Nat) (h : 4096 < at') : longT b at' = foldT b at' 4096 := foldT_stay b at' 4096 at' (by omega) (fun d h1 h2 => Or.inl h1)
theorem longT_full (b : By) (at' k : Nat) (h : k ≤ at') (hf : (foldT b at' k).2 = 258) : longT b at' = foldT b at' k :=
  foldT_stay b at' k at' h (fun d h1 h2 => Or.inr (Or.inr (by have := reachN_le b (at' - d) at'; omega)))
theorem longT_room (b : By) (at' : Nat) (h : at' < b.length) : at' + (longT b at').2 ≤ b.length := by
  rcases foldT_spec b at' at' with e | ⟨_, _, _, _, e⟩
  · unfold longT; rw [e]; simp; omega
  · unfold longT; rw [e]; exact reachN_room _ _ _ (by omega)
/-- .. as a token. -/
def tokOf (b : By) (at' : Nat) (t : Nat × Nat) : Tok := if t.1 = 0 then (0, (t.2 : Int), b.getD at' 0) else ((t.1 : Int), (t.2 : Int), 0)
theorem tokOf_len (b : By) (at' : Nat) (t : Nat × Nat) : (tokOf b at' t).2.1 = t.2 := by unfold tokOf; split <;> rfl
theorem foldT_ok (b : By) (at' d : Nat) : okT (tokOf b at' (foldT b at' d)) := by
  rcases foldT_spec b at' d with e | ⟨h1, h2, h3, h4, h5⟩
  · rw [e]; unfold tokOf okT; simp
  · have := reachN_le b (at' - (foldT b at' d).1) at'
    unfold tokOf okT
    rw [if_neg (by omega)]
    exact Or.inr ⟨by simp; omega, by simp; omega, by simp; omega, by simp; omega, rfl⟩
/-- The step at a distance that fits better. -/
theorem tokOf_step (b : By) (at' k : Nat) (h : k + 1 ≤ 4096) (h4 : 4 ≤ reachN b (at' - (k + 1)) at') (hl : (foldT b at' k).2 < reachN b (at' - (k + 1)) at') : foldT b at' (k + 1) = (k + 1, reachN b (at' - (k + 1)) at') := by
  rw [foldT, stepT, if_pos ⟨h, h4, hl⟩]
theorem tokOf_same (b : By) (at' k : Nat) (h : ¬ (4 ≤ reachN b (at' - (k + 1)) at' ∧ (foldT b at' k).2 < reachN b (at' - (k + 1)) at')) : foldT b at' (k + 1) = foldT b at' k := by
  rw [foldT, stepT, if_neg (fun hh => h hh.2)]
/-- Where four bytes stood last, ahead of a place; below 0: nowhere. -/
def lastOcc (b : By) (key : By) : Nat → Int
  | 0 => -1
  | n + 1 => if n + 4 ≤ b.length ∧ keyAt b n = key then (n : Int) else lastOcc b key n
theorem lastOcc_lt (b key : By) : ∀ n, -1 ≤ lastOcc b key n ∧ lastOcc b key n < n
  | 0 => by simp [lastOcc]
  | n + 1 => by
    have := lastOcc_lt b key n
    unfold lastOcc
    split <;> omega
theorem lastOcc_key (b key : By) : ∀ n, 0 ≤ lastOcc b key n → (lastOcc b key n).toNat + 4 ≤ b.length ∧ keyAt b (lastOcc b key n).toNat = key
  | 0, h => by simp [lastOcc] at h
  | n + 1, h => by
    unfold lastOcc at h ⊢
    split
    · rename_i h'
      simpa using h'
    · rename_i h'
      rw [if_neg h'] at h
      exact lastOcc_key b key n h
theorem lastOcc_none (b key : By) : ∀ n i : Nat, lastOcc b key n < i → i < n → ¬ (i + 4 ≤ b.length ∧ keyAt b i = key)
  | 0, i, _, h => by omega
  | n + 1, i, h1, h2 => by
    unfold lastOcc at h1
    split at h1
    · omega
    · rename_i h'
      rcases Nat.eq_or_lt_of_le (Nat.le_of_lt_succ h2) with rfl | h2
      · exact h'
      · exact lastOcc_none b key n i h1 h2
/-- What stands ahead of each place. -/
def aheadI (b : By) (i : Nat) : Int := if i + 4 ≤ b.length then lastOcc b (keyAt b i) i else -1
def aheadL (b : By) (n : Nat) : List Int := (List.range n).map (aheadI b)
theorem aheadL_len (b : By) (n : Nat) : (aheadL b n).length = n := by simp [aheadL]
theorem aheadL_snoc (b : By) (n : Nat) : aheadL b (n + 1) = aheadL b n ++ [aheadI b n] := by simp [aheadL, List.range_succ]
/-- One step along the places of the same four bytes: n is where the last one looked at stood. -/
theorem chain_stay (b : By) (at' n k : Nat) (ha : at' + 4 ≤ b.length) (hn : n ≤ at') (hk : k ≤ n) (h : ∀ i, k ≤ i → i < n → at' - i ≤ 4096 → keyAt b i ≠ keyAt b at') : foldT b at' (at' - k) = foldT b at' (at' - n) := by
  refine foldT_stay b at' (at' - n) (at' - k) (by omega) fun d h1 h2 => ?_
  rcases Nat.lt_or_ge 4096 d with h3 | h3
  · exact Or.inl h3
  · refine Or.inr (Or.inl ?_)
    have hne := h (at' - d) (by omega) (by omega) (by omega)
    have hd : 1 ≤ d := by omega
    by_cases hl : 4 ≤ reachN b (at' - d) at'
    · exact absurd ((reachF_four b (at' - d) at' (by omega) ha).1 hl) hne
    · omega
theorem chain_none (b : By) (at' n : Nat) (ha : at' + 4 ≤ b.length) (hn : n ≤ at') (h : lastOcc b (keyAt b at') n < 0) : longT b at' = foldT b at' (at' - n) := by
  have := chain_stay b at' n 0 ha hn (Nat.zero_le _) (fun i _ h2 _ e => lastOcc_none b (keyAt b at') n i (by omega) h2 ⟨by omega, e⟩)
  simpa [longT] using this
theorem chain_far (b : By) (at' n : Nat) (ha : at' + 4 ≤ b.length) (hn : n ≤ at') (h0 : 0 ≤ lastOcc b (keyAt b at') n) (h : 4096 < (at' : Int) - lastOcc b (keyAt b at') n) : longT b at' = foldT b at' (at' - n) := by
  have := chain_stay b at' n 0 ha hn (Nat.zero_le _) (fun i _ h2 h3 e => lastOcc_none b (keyAt b at') n i (by omega) h2 ⟨by omega, e⟩)
  simpa [longT] using this
theorem chain_some (b : By) (at' n q : Nat) (ha : at' + 4 ≤ b.length) (hn : n ≤ at') (h : lastOcc b (keyAt b at') n = q) (h4 : at' - q ≤ 4096) :
    q < n ∧ q < at' ∧ q + 4 ≤ b.length ∧ 4 ≤ reachN b q at' ∧ aheadI b q = lastOcc b (keyAt b at') q ∧
    foldT b at' (at' - q) = if (foldT b at' (at' - n)).2 < reachN b q at' then (at' - q, reachN b q at') else foldT b at' (at' - n) := by
  have h1 := (lastOcc_lt b (keyAt b at') n).2
  have h2 := lastOcc_key b (keyAt b at') n (by omega)
  rw [h] at h1 h2
  simp only [Int.toNat_natCast] at h2
  have hq : q < n := by omega
  have h5 : 4 ≤ reachN b q at' := (reachF_four b q at' (by omega) ha).2 h2.2
  refine ⟨hq, by omega, h2.1, h5, by unfold aheadI; rw [if_pos h2.1, h2.2], ?_⟩
  have e1 := chain_stay b at' n (q + 1) ha hn (by omega) (fun i h6 h7 h8 e => lastOcc_none b (keyAt b at') n i (by omega) h7 ⟨by omega, e⟩)
  obtain ⟨m, hm⟩ : ∃ m, at' - q = m + 1 := ⟨at' - q - 1, by omega⟩
  have hm' : at' - (q + 1) = m := by omega
  have hqm : at' - (m + 1) = q := by omega
  rw [hm'] at e1
  rw [hm, foldT, e1, stepT, hqm]
  by_cases hl : (foldT b at' (at' - n)).2 < reachN b q at'
  · rw [if_pos ⟨by omega, h5, hl⟩, if_pos hl]
  · rw [if_neg (fun x => hl x.2.2), if_neg hl]
theorem chain_short (b : By) (at' : Nat) (ha : at' < b.length) (hs : b.length < at' + 4) : longT b at' = (0, 1) := by
  refine foldT_stay b at' 0 at' (Nat.zero_le _) fun d h1 h2 => Or.inr (Or.inl ?_)
  have := reachN_room b (at' - d) at' (by omega)
  omega
/-- The tokens from a place on. -/
def toksF (b : By) : Nat → Nat → List Tok
  | 0, _ => []
  | f + 1, at' => if at' < b.length then tokOf b at' (longT b at') :: toksF b f (at' + (longT b at').2) else []
theorem toksF_more (b : By) : ∀ (f g at' : Nat), b.length - at' ≤ f → b.length - at' ≤ g → toksF b f at' = toksF b g at'
  | 0, 0, _, _, _ => rfl
  | 0, g + 1, at', hf, _ => by unfold toksF; rw [if_neg (by omega)]
  | f + 1, 0, at', _, hg => by unfold toksF; rw [if_neg (by omega)]
  | f + 1, g + 1, at', hf, hg => by
    unfold toksF
    split
    · have h1 := (foldT_len b at' at').1
      rw [toksF_more b f g _ (by unfold longT; omega) (by unfold longT; omega)]
    · rfl
def toks (b : By) (at' : Nat) : List Tok := toksF b (b.length - at') at'
theorem toks_end (b : By) (at' : Nat) (h : b.length ≤ at') : toks b at' = [] := by
  unfold toks; rw [show b.length - at' = 0 by omega]; rfl
theorem toks_cons (b : By) (at' : Nat) (h : at' < b.length) : toks b at' = tokOf b at' (longT b at') :: toks b (at' + (longT b at').2) := by
  obtain ⟨f, hf⟩ : ∃ f, b.length - at' = f + 1 := ⟨b.length - at' - 1, by omega⟩
  have h1 := (foldT_len b at' at').1
  unfold toks
  rw [hf, toksF, if_pos h, toksF_more b f (b.length - (at' + (longT b at').2)) _ (by unfold longT; omega) (Nat.le_refl _)]
/-- A copy of n bytes. -/
def copyN (d : Nat) : Nat → By → By
  | 0, b => b
  | n + 1, b => copyN d n (b ++ [b.getD (b.length - d) 0])
theorem copyN_snoc (d : Nat) : ∀ (n : Nat) (b : By), copyN d (n + 1) b = copyN d n b ++ [(copyN d n b).getD ((copyN d n b).length - d) 0]
  | 0, b => rfl
  | n + 1, b => by rw [copyN, copyN_snoc d n, copyN]
theorem copyN_len (d : Nat) : ∀ (n : Nat) (b : By), (copyN d n b).length = b.length + n
  | 0, b => rfl
  | n + 1, b => by rw [copyN, copyN_len d n, List.length_append]; simp; omega
theorem copyN_pre (d : Nat) : ∀ (n : Nat) (b : By), b <+: copyN d n b
  | 0, b => List.prefix_refl _
  | n + 1, b => (List.prefix_append b _).trans (copyN_pre d n _)
/-- What tokens make; or the first one with which it cannot go on, and why. -/
def bytesT : List Tok → By → Int → By × Int × Int
  | [], b, _ => (b, 0, 0)
  | t :: l, b, i =>
    if ¬ okT t then ([], i, 60)
    else if (b.length : Int) < t.1 then ([], i, 61)
    else if 65536 - (b.length : Int) < t.2.1 then ([], i, 2)
    else if t.1 = 0 then bytesT l (b ++ [t.2.2]) (i + 1)
    else bytesT l (copyN t.1.toNat t.2.1.toNat b) (i + 1)
theorem bytesT_take : ∀ (l : List Tok) (b : By) (i : Int) (k : Nat), (bytesT l b i).2.2 = 0 → (bytesT (l.take k) b i).2.2 = 0 ∧ b <+: (bytesT (l.take k) b i).1 ∧ (bytesT (l.take k) b i).1 <+: (bytesT l b i).1
  | [], b, i, k, _ => by simp [bytesT]
  | t :: l, b, i, 0, h => by
    refine ⟨rfl, List.prefix_refl _, ?_⟩
    show b <+: _
    unfold bytesT at h ⊢
    split at h
    · simp at h
    · split at h
      · simp at h
      · split at h
        · simp at h
        · split at h
          · rename_i h1 h2 h3 h4
            rw [if_neg h1, if_neg h2, if_neg h3, if_pos h4]
            have := bytesT_take l _ _ 0 h
            rw [List.take_zero] at this
            exact (List.prefix_append b _).trans this.2.2
          · rename_i h1 h2 h3 h4
            rw [if_neg h1, if_neg h2, if_neg h3, if_neg h4]
            have := bytesT_take l _ _ 0 h
            rw [List.take_zero] at this
            exact (copyN_pre _ _ b).trans this.2.2
  | t :: l, b, i, k + 1, h => by
    rw [List.take_succ_cons]
    unfold bytesT at h ⊢
    split at h
    · simp at h
    · split at h
      · simp at h
      · split at h
        · simp at h
        · split at h
          · rename_i h1 h2 h3 h4
            rw [if_neg h1, if_neg h2, if_neg h3, if_pos h4, if_neg h1, if_neg h2, if_neg h3, if_pos h4]
            have := bytesT_take l _ _ k h
            exact ⟨this.1, (List.prefix_append b _).trans this.2.1, this.2.2⟩
          · rename_i h1 h2 h3 h4
            rw [if_neg h1, if_neg h2, if_neg h3, if_neg h4, if_neg h1, if_neg h2, if_neg h3, if_neg h4]
            have := bytesT_take l _ _ k h
            exact ⟨this.1, (copyN_pre _ _ b).trans this.2.1, this.2.2⟩
theorem bytesT_err : ∀ (l : List Tok) (b : By) (i : Int), (bytesT l b i).2.2 ≠ 0 → (bytesT l b i).1 = []
  | [], b, i, h => by simp [bytesT] at h
  | t :: l, b, i, h => by
    unfold bytesT at h ⊢
    split
    · rfl
    · rename_i h1
      rw [if_neg h1] at h
      split
      · rfl
      · rename_i h2
        rw [if_neg h2] at h
        split
        · rfl
        · rename_i h3
          rw [if_neg h3] at h
          split
          · rename_i h4
            rw [if_pos h4] at h
            exact bytesT_err l _ _ h
          · rename_i h4
            rw [if_neg h4] at h
            exact bytesT_err l _ _ h
/-- A copy of what stands there already goes on with it. -/
theorem copyN_reach (b : By) (at' d : Nat) (h1 : 1 ≤ d) (hd : d ≤ at') : ∀ (n k : Nat), k + n ≤ reachN b (at' - d) at' → copyN d n (b.take (at' + k)) = b.take (at' + k + n)
  | 0, k, _ => rfl
  | n + 1, k, h => by
    obtain ⟨h2, h3⟩ := reachN_in b (at' - d) at' k (by omega)
    have hl : (b.take (at' + k)).length = at' + k := by rw [List.length_take]; omega
    have e : b.take (at' + k) ++ [(b.take (at' + k)).getD ((b.take (at' + k)).length - d) 0] = b.take (at' + (k + 1)) := by
      rw [hl, ← Nat.add_assoc, List.take_succ_eq_append_getElem h2]
      congr 2
      rw [List.getD_eq_getElem?_getD, List.getElem?_take, if_pos (by omega), show at' + k - d = at' - d + k by omega, h3, List.getElem?_eq_getElem h2]
      rfl
    rw [copyN, e, copyN_reach b at' d h1 hd n (k + 1) (by omega)]
    congr 1
    omega
/-- There and back. -/
theorem back_from (b : By) (hb : b.length ≤ 65536) : ∀ (f at' : Nat) (i : Int), b.length - at' ≤ f → at' ≤ b.length → bytesT (toks b at') (b.take at') i = (b, 0, 0)
  | 0, at', i, h1, h2 => by
    rw [toks_end b at' (by omega), bytesT, List.take_of_length_le (by omega)]
  | f + 1, at', i, h1, h2 => by
    rcases Nat.lt_or_ge at' b.length with hlt | hge
    · have hr := longT_room b at' hlt
      have hok := foldT_ok b at' at'
      have hln : 1 ≤ (longT b at').2 ∧ (longT b at').2 ≤ 258 ∧ (longT b at').1 ≤ 4096 ∧ (longT b at').1 ≤ at' := foldT_len b at' at'
      have hlen : (b.take at').length = at' := by rw [List.length_take]; omega
      rw [toks_cons b at' hlt, bytesT, if_neg (fun h => h hok)]
      rcases foldT_spec b at' at' with e | ⟨g1, g2, g3, g4, g5⟩
      · have e' : longT b at' = (0, 1) := e
        rw [e']
        have et : tokOf b at' (0, 1) = (0, 1, b.getD at' 0) := rfl
        rw [et, if_neg (by simp), if_neg (by rw [hlen]; simp; omega), if_pos rfl]
        have e2 : b.take at' ++ [b.getD at' 0] = b.take (at' + 1) := by
          rw [List.take_succ_eq_append_getElem hlt, List.getD_eq_getElem?_getD, List.getElem?_eq_getElem hlt]; rfl
        show bytesT (toks b (at' + 1)) (b.take at' ++ [b.getD at' 0]) (i + 1) = _
        rw [e2]
        exact back_from b hb f (at' + 1) (i + 1) (by omega) (by omega)
      · change 1 ≤ (longT b at').1 at g1
        change (longT b at').1 ≤ at' at g2
        change (longT b at').2 = reachN b (at' - (longT b at').1) at' at g5
        have hc := copyN_reach b at' (longT b at').1 g1 g2 (longT b at').2 0 (by omega)
        rw [Nat.add_zero] at hc
        have et : tokOf b at' (longT b at') = (((longT b at').1 : Int), ((longT b at').2 : Int), 0) := by unfold tokOf; rw [if_neg (by omega)]
        rw [et, if_neg (by rw [hlen]; simp; omega), if_neg (by rw [hlen]; simp; omega), if_neg (by simp; omega)]
        simp only [Int.toNat_natCast]
        rw [hc]
        exact back_from b hb f _ (i + 1) (by omega) hr
    · rw [toks_end b at' hge, bytesT, List.take_of_length_le (by omega)]
theorem back (b : By) (hb : b.length ≤ 65536) : bytesT (toks b 0) [] 0 = (b, 0, 0) := back_from b hb b.length 0 0 (by omega) (by omega)
theorem toks_len (b : By) : ∀ (f at' : Nat), b.length - at' ≤ f → (toks b at').length ≤ b.length - at'
  | 0, at', h => by rw [toks_end b at' (by omega)]; simp
  | f + 1, at', h => by
    rcases Nat.lt_or_ge at' b.length with hlt | hge
    · have hr := longT_room b at' hlt
      have hln : 1 ≤ (longT b at').2 := (foldT_len b at' at').1
      have := toks_len b f (at' + (longT b at').2) (by omega)
      rw [toks_cons b at' hlt, List.length_cons]; omega
    · rw [toks_end b at' hge]; simp
/-- What stands at each token: it may be, and no copy can be longer. -/
def shortAt (b : By) (at' : Nat) (t : Tok) : Prop :=
  okT t ∧ 1 ≤ t.2.1 ∧ at' + t.2.1 ≤ b.length ∧ (t.1 = 0 ∨ (1 ≤ t.1 ∧ t.1 ≤ at')) ∧ (1 ≤ t.1 → t.2.1 < 258 → ∀ h : at' + t.2.1.toNat < b.length, b[at' + t.2.1.toNat]? ≠ b[at' + t.2.1.toNat - t.1.toNat]?)
theorem short_tok (b : By) (at' : Nat) (h : at' < b.length) : shortAt b at' (tokOf b at' (longT b at')) := by
  have hr := longT_room b at' h
  have hok := foldT_ok b at' at'
  refine ⟨hok, (ok_len hok).1, by rw [tokOf_len]; omega, ?_, ?_⟩
  · rcases foldT_spec b at' at' with e | ⟨g1, g2, g3, g4, g5⟩
    · left; unfold longT; rw [e]; rfl
    · right
      unfold tokOf longT
      rw [if_neg (by omega)]
      exact ⟨by simp; omega, by simp; omega⟩
  · intro h1 h2 h3 h4
    rcases foldT_spec b at' at' with e | ⟨g1, g2, g3, g4, g5⟩
    · unfold longT at h1; rw [e] at h1; exact absurd h1 (by simp [tokOf])
    · rw [tokOf_len] at h2 h3 h4
      change (longT b at').2 = reachN b (at' - (longT b at').1) at' at g5
      change 1 ≤ (longT b at').1 at g1
      change (longT b at').1 ≤ at' at g2
      have et : (tokOf b at' (longT b at')).1.toNat = (longT b at').1 := by unfold tokOf; rw [if_neg (by omega)]; simp
      rw [et] at h4
      simp only [Int.toNat_natCast] at h3 h4
      rcases reachN_end b (at' - (longT b at').1) at' with e | e
      · omega
      · apply e
        rw [← g5]
        exact ⟨h3, by rw [h4]; congr 1; omega⟩
end Go.Proofs.Ytebmnfffmpiceaa
