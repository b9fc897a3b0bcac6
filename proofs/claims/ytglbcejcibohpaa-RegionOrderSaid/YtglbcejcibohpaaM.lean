import Derived.KernelRfl
/-! Rows of extents: plain laws. No program is named here. -/
namespace Go.Proofs.Ytglbcejcibohpaa
set_option linter.unusedVariables false
set_option linter.unusedSimpArgs false
/-- So many blocks from a place on. -/
abbrev Ext := Int × Int
def liesE (b : Int) (e : Ext) : Prop := 0 ≤ e.1 ∧ 1 ≤ e.2 ∧ e.1 + e.2 ≤ b
instance (b : Int) (e : Ext) : Decidable (liesE b e) := by unfold liesE; infer_instance
/-- A row that may be, behind p. -/
def freeF (b : Int) : Int → List Ext → Prop
  | _, [] => True
  | p, e :: l => (liesE b e ∧ p < e.1) ∧ freeF b (e.1 + e.2) l
instance decFree (b : Int) : ∀ (p : Int) (l : List Ext), Decidable (freeF b p l)
  | _, [] => isTrue trivial
  | p, e :: l => by
    unfold freeF
    have := decFree b (e.1 + e.2) l
    infer_instance
def freeE (b : Int) (l : List Ext) : Prop := freeF b (-1) l
instance (b : Int) (l : List Ext) : Decidable (freeE b l) := decFree b (-1) l
def checkE (b : Int) (l : List Ext) : Int := if b < 0 ∨ 4096 < b then 1 else if freeE b l then 0 else 100
theorem freeF_mono {b : Int} : ∀ {l : List Ext} {p q : Int}, freeF b p l → q ≤ p → freeF b q l
  | [], _, _, _, _ => trivial
  | e :: l, p, q, h, hq => ⟨⟨h.1.1, by have := h.1.2; omega⟩, h.2⟩
theorem freeF_lies {b : Int} : ∀ {l : List Ext} {p : Int}, freeF b p l → ∀ e ∈ l, liesE b e ∧ p < e.1
  | [], _, _, e, he => by simp at he
  | x :: l, p, h, e, he => by
    rcases List.mem_cons.1 he with rfl | he
    · exact h.1
    · obtain ⟨h1, h2⟩ := freeF_lies h.2 e he
      have := h.1; unfold liesE at this
      exact ⟨h1, by omega⟩
theorem freeF_take {b : Int} : ∀ {l : List Ext} {p : Int} (k : Nat), freeF b p l → freeF b p (l.take k)
  | [], _, k, _ => by rw [List.take_nil]; trivial
  | x :: l, p, 0, h => trivial
  | x :: l, p, k + 1, h => ⟨h.1, freeF_take k h.2⟩
/-- Is a block in a row? -/
def inE (e : Ext) (k : Int) : Prop := e.1 ≤ k ∧ k < e.1 + e.2
instance (e : Ext) (k : Int) : Decidable (inE e k) := by unfold inE; infer_instance
def memE (l : List Ext) (k : Int) : Prop := ∃ e ∈ l, inE e k
def memB (l : List Ext) (k : Int) : Bool := l.any fun e => decide (inE e k)
theorem memB_iff (l : List Ext) (k : Int) : memB l k = true ↔ memE l k := by simp [memB, memE]
theorem memE_nil (k : Int) : ¬ memE [] k := by simp [memE]
theorem memE_cons (e : Ext) (l : List Ext) (k : Int) : memE (e :: l) k ↔ inE e k ∨ memE l k := by simp [memE]
theorem memE_app (p q : List Ext) (k : Int) : memE (p ++ q) k ↔ memE p k ∨ memE q k := by
  simp only [memE, List.mem_append]
  constructor
  · rintro ⟨e, he | he, h⟩
    · exact Or.inl ⟨e, he, h⟩
    · exact Or.inr ⟨e, he, h⟩
  · rintro (⟨e, he, h⟩ | ⟨e, he, h⟩)
    · exact ⟨e, Or.inl he, h⟩
    · exact ⟨e, Or.inr he, h⟩
theorem freeF_mem {b : Int} {l : List Ext} {p : Int} (h : freeF b p l) {k : Int} (hk : memE l k) : p < k ∧ 0 ≤ k ∧ k < b := by
  obtain ⟨e, he, h1, h2⟩ := hk
  obtain ⟨h3, h4⟩ := freeF_lies h e he
  unfold liesE at h3
  omega
theorem free_one {b : Int} : ∀ {l : List Ext} {p : Int}, freeF b p l → ∀ {e f : Ext}, e ∈ l → f ∈ l → ∀ {k : Int}, inE e k → inE f k → e = f
  | [], _, _, e, f, he, _, _, _, _ => by simp at he
  | x :: l, p, h, e, f, he, hf, k, h1, h2 => by
    rcases List.mem_cons.1 he with he' | he' <;> rcases List.mem_cons.1 hf with hf' | hf'
    · rw [he', hf']
    · have := (freeF_mem h.2 ⟨f, hf', h2⟩).1
      subst he'
      unfold inE at h1; omega
    · have := (freeF_mem h.2 ⟨e, he', h1⟩).1
      subst hf'
      unfold inE at h2; omega
    · exact free_one h.2 he' hf' h1 h2
/-- The bits of a row, and the row of bits. -/
def bitsE (n : Nat) (l : List Ext) : List Bool := (List.range n).map fun (i : Nat) => memB l (i : Int)
theorem bitsE_len (n : Nat) (l : List Ext) : (bitsE n l).length = n := by simp [bitsE]
theorem bitsE_at (n : Nat) (l : List Ext) (k : Nat) (h : k < n) : (bitsE n l)[k]? = some (memB l (k : Int)) := by simp [bitsE, h]
def rowS : Option (Nat × Nat) → Nat → List Bool → List Ext
  | none, _, [] => []
  | some s, _, [] => [((s.1 : Int), (s.2 : Int))]
  | none, k, false :: l => rowS none (k + 1) l
  | some s, k, false :: l => ((s.1 : Int), (s.2 : Int)) :: rowS none (k + 1) l
  | none, k, true :: l => rowS (some (k, 1)) (k + 1) l
  | some s, k, true :: l => rowS (some (s.1, s.2 + 1)) (k + 1) l
def rowE (l : List Bool) : List Ext := rowS none 0 l
theorem rowS_false : ∀ (g k : Nat) (l : List Bool), rowS none k (List.replicate g false ++ l) = rowS none (k + g) l
  | 0, k, l => rfl
  | g + 1, k, l => by
    rw [List.replicate_succ, List.cons_append, rowS, rowS_false g, show k + 1 + g = k + (g + 1) by omega]
theorem rowS_true : ∀ (n : Nat) (s : Nat × Nat) (k : Nat) (l : List Bool), rowS (some s) k (List.replicate n true ++ l) = rowS (some (s.1, s.2 + n)) (k + n) l
  | 0, s, k, l => rfl
  | n + 1, s, k, l => by
    rw [List.replicate_succ, List.cons_append, rowS, rowS_true n, show k + 1 + n = k + (n + 1) by omega, show s.2 + 1 + n = s.2 + (n + 1) by omega]
def seg (l : List Ext) (q m : Nat) : List Bool := (List.range' q m).map fun (i : Nat) => memB l (i : Int)
theorem seg_eq (l : List Ext) (q m : Nat) (f : Bool) (h : ∀ i : Nat, q ≤ i → i < q + m → memB l (i : Int) = f) : seg l q m = List.replicate m f := by
  unfold seg
  apply List.ext_getElem
  · simp
  · intro i h1 h2
    simp at h1
    simp only [List.getElem_map, List.getElem_range', List.getElem_replicate]
    exact h _ (by omega) (by omega)
theorem seg_app (l : List Ext) (q m n : Nat) : seg l q (m + n) = seg l q m ++ seg l (q + m) n := by
  unfold seg
  rw [← List.map_append]
  congr 1
  have := (List.range'_append (s := q) (m := m) (n := n) (step := 1)).symm
  rw [this, Nat.one_mul]
theorem seg_congr (l r : List Ext) (q m : Nat) (h : ∀ i : Nat, q ≤ i → i < q + m → memB l (i : Int) = memB r (i : Int)) : seg l q m = seg r q m := by
  unfold seg
  apply List.map_congr_left
  intro i hi
  rw [List.mem_range'_1] at hi
  exact h i (by omega) (by omega)
theorem bool_eq {a b : Bool} (h : a = true ↔ b = true) : a = b := by cases a <;> cases b <;> simp_all
theorem row_seg : ∀ (l : List Ext) (b p : Int) (q m : Nat), freeF b p l → p + 1 ≤ q → (q : Int) + m = b → (∀ e ∈ l, (q : Int) ≤ e.1) → rowS none q (seg l q m) = l
  | [], b, p, q, m, h, h1, h2, h3 => by
    rw [seg_eq [] q m false (fun i _ _ => rfl)]
    have := rowS_false m q []
    rw [List.append_nil] at this
    rw [this]; rfl
  | e :: l, b, p, q, m, h, h1, h2, h3 => by
    obtain ⟨⟨⟨l1, l2, l3⟩, hp⟩, hf⟩ := h
    have hq := h3 e (by simp)
    obtain ⟨a, n⟩ := e
    simp only at l1 l2 l3 hp hf hq
    obtain ⟨a, rfl⟩ := Int.eq_ofNat_of_zero_le l1
    obtain ⟨n, rfl⟩ := Int.eq_ofNat_of_zero_le (show 0 ≤ n by omega)
    have hrest : ∀ {k : Int}, memE l k → (a : Int) + n < k := fun hk => by
      have := (freeF_mem hf hk).1; omega
    have hm : m = (a - q) + (n + (m - (a - q) - n)) := by omega
    rw [hm, seg_app, seg_app, show q + (a - q) = a by omega]
    rw [seg_eq _ q (a - q) false, seg_eq _ a n true, rowS_false, show q + (a - q) = a by omega]
    · obtain ⟨n', hn'⟩ : ∃ n', n = n' + 1 := ⟨n - 1, by omega⟩
      rw [hn', List.replicate_succ, List.cons_append, rowS, rowS_true]
      have hc : seg (((a : Int), ((n' + 1 : Nat) : Int)) :: l) (a + (n' + 1)) (m - (a - q) - (n' + 1)) = seg l (a + (n' + 1)) (m - (a - q) - (n' + 1)) := by
        apply seg_congr
        intro i hi1 hi2
        apply bool_eq
        rw [memB_iff, memB_iff, memE_cons]
        constructor
        · rintro (⟨_, h⟩ | h)
          · simp only at h; omega
          · exact h
        · exact Or.inr
      rw [hc]
      rcases Nat.eq_zero_or_pos (m - (a - q) - (n' + 1)) with h0 | h0
      · rw [h0]
        have hl : l = [] := by
          cases l with
          | nil => rfl
          | cons x l =>
            obtain ⟨⟨⟨x1, x2, x3⟩, x4⟩, _⟩ := hf
            omega
        subst hl
        have e0 : seg [] (a + (n' + 1)) 0 = [] := rfl
        rw [e0]
        show [((a : Int), ((1 + n' : Nat) : Int))] = _
        rw [Nat.add_comm]
      · obtain ⟨m', hm'⟩ : ∃ m', m - (a - q) - (n' + 1) = 1 + m' := ⟨m - (a - q) - (n' + 1) - 1, by omega⟩
        rw [hm', seg_app, seg_eq l (a + (n' + 1)) 1 false]
        · rw [List.replicate_one, List.cons_append, List.nil_append]
          show ((a : Int), ((1 + n' : Nat) : Int)) :: rowS none (a + 1 + n' + 1) (seg l (a + (n' + 1) + 1) m') = _
          rw [show a + (n' + 1) + 1 = a + 1 + n' + 1 by omega, row_seg l b ((a : Int) + ((n' + 1 : Nat) : Int)) (a + 1 + n' + 1) m' (by rw [hn'] at hf; exact hf) (by push_cast; omega) (by push_cast; omega) (fun e he => by
            have := (freeF_lies hf e he).2; push_cast; omega)]
          rw [Nat.add_comm 1 n']
        · intro i hi1 hi2
          cases hb : memB l (i : Int) with
          | false => rfl
          | true => have := hrest ((memB_iff _ _).1 hb); omega
    · intro i hi1 hi2
      rw [memB_iff, memE_cons]
      exact Or.inl ⟨by simp only; omega, by simp only; omega⟩
    · intro i hi1 hi2
      cases hb : memB (((a : Int), (n : Int)) :: l) (i : Int) with
      | false => rfl
      | true =>
        rcases (memE_cons _ _ _).1 ((memB_iff _ _).1 hb) with h | h
        · have := h.1; simp only at this; omega
        · have := hrest h; omega
/-- A row that may be is that of its bits. -/
theorem row_bits (n : Nat) (l : List Ext) (h : freeE n l) : rowE (bitsE n l) = l := by
  have e : bitsE n l = seg l 0 n := by unfold bitsE seg; rw [List.range_eq_range']
  rw [e]
  exact row_seg l n (-1) 0 n h (by omega) (by omega) (fun e he => by have := (freeF_lies h e he).2; omega)
theorem row_of (n : Nat) (l : List Ext) (f : List Bool) (h : freeE n l) (hf : f.length = n) (hm : ∀ k : Nat, k < n → f[k]? = some (memB l (k : Int))) : rowE f = l := by
  have e : f = bitsE n l := by
    apply List.ext_getElem?
    intro k
    rcases Nat.lt_or_ge k n with hk | hk
    · rw [hm k hk, bitsE_at n l k hk]
    · rw [List.getElem?_eq_none (by omega), List.getElem?_eq_none (by rw [bitsE_len]; omega)]
  rw [e]; exact row_bits n l h
theorem row_unique (b : Int) (h0 : 0 ≤ b) (l r : List Ext) (hl : freeE b l) (hr : freeE b r) (h : ∀ k : Int, 0 ≤ k → k < b → (memE l k ↔ memE r k)) : l = r := by
  obtain ⟨n, rfl⟩ := Int.eq_ofNat_of_zero_le h0
  rw [← row_bits n l hl]
  refine row_of n r _ hr (bitsE_len n l) fun k hk => ?_
  rw [bitsE_at n l k hk]
  congr 1
  apply bool_eq
  rw [memB_iff, memB_iff]
  exact h k (by omega) (by omega)
/-- Does one extent hold another? -/
def holdsE (a e : Ext) : Prop := a.1 ≤ e.1 ∧ e.1 + e.2 ≤ a.1 + a.2
instance (a e : Ext) : Decidable (holdsE a e) := by unfold holdsE; infer_instance
def cutE (x e : Ext) : List Ext := if holdsE e x then (if 0 < x.1 - e.1 then [(e.1, x.1 - e.1)] else []) ++ (if 0 < e.1 + e.2 - (x.1 + x.2) then [(x.1 + x.2, e.1 + e.2 - (x.1 + x.2))] else []) else [e]
def withoutE (l : List Ext) (x : Ext) : List Ext := l.flatMap (cutE x)
theorem freeF_app {b : Int} : ∀ {l : List Ext} {p q : Int} {r : List Ext}, freeF b p l → (∀ e ∈ l, e.1 + e.2 ≤ q) → freeF b q r → p ≤ q → freeF b p (l ++ r)
  | [], p, q, r, _, _, h, hpq => freeF_mono h hpq
  | e :: l, p, q, r, h, hq, hr, hpq => ⟨h.1, freeF_app h.2 (fun x hx => hq x (by simp [hx])) hr (hq e (by simp))⟩
theorem cutE_free {b p : Int} {x e : Ext} (hx : 1 ≤ x.2) (he : liesE b e) (hp : p < e.1) : freeF b p (cutE x e) ∧ ∀ y ∈ cutE x e, y.1 + y.2 ≤ e.1 + e.2 := by
  unfold liesE at he
  unfold cutE
  split
  · rename_i hh
    unfold holdsE at hh
    split <;> split <;> simp [freeF, liesE] <;> omega
  · simp [freeF, liesE]; omega
theorem without_free {b : Int} {x : Ext} (hx : 1 ≤ x.2) : ∀ {l : List Ext} {p : Int}, freeF b p l → freeF b p (withoutE l x)
  | [], _, _ => trivial
  | e :: l, p, h => by
    obtain ⟨h1, h2⟩ := cutE_free (x := x) hx h.1.1 h.1.2
    have := h.1; unfold liesE at this
    exact freeF_app h1 h2 (without_free hx h.2) (by omega)
theorem mem_cut (x e : Ext) (hx : 1 ≤ x.2) (k : Int) (hh : holdsE e x) : memE (cutE x e) k ↔ inE e k ∧ ¬ inE x k := by
  unfold cutE
  rw [if_pos hh, memE_app]
  unfold holdsE at hh
  unfold memE inE
  constructor
  · rintro (⟨y, hy, h1, h2⟩ | ⟨y, hy, h1, h2⟩)
    · split at hy
      · simp at hy; subst hy; simp only at h1 h2; omega
      · simp at hy
    · split at hy
      · simp at hy; subst hy; simp only at h1 h2; omega
      · simp at hy
  · rintro ⟨⟨h1, h2⟩, h3⟩
    rcases Int.lt_or_le k x.1 with h4 | h4
    · left
      exact ⟨(e.1, x.1 - e.1), by rw [if_pos (by omega)]; simp, h1, by simp only; omega⟩
    · right
      exact ⟨(x.1 + x.2, e.1 + e.2 - (x.1 + x.2)), by rw [if_pos (by omega)]; simp, by simp only; omega, by simp only; omega⟩
def hasE (l : List Ext) (x : Ext) : Prop := ∃ e ∈ l, holdsE e x
instance (l : List Ext) (x : Ext) : Decidable (hasE l x) := by unfold hasE; infer_instance
theorem mem_without {b p : Int} {l : List Ext} (h : freeF b p l) {x : Ext} (hx : 1 ≤ x.2) (hh : hasE l x) (k : Int) : memE (withoutE l x) k ↔ memE l k ∧ ¬ inE x k := by
  obtain ⟨e0, he0, hh0⟩ := hh
  have key : ∀ e ∈ l, (memE (cutE x e) k ↔ inE e k ∧ ¬ inE x k) := by
    intro e he
    by_cases hc : holdsE e x
    · exact mem_cut x e hx k hc
    · have ec : cutE x e = [e] := by unfold cutE; rw [if_neg hc]
      rw [ec]
      constructor
      · rintro ⟨y, hy, h1⟩
        obtain rfl : y = e := by simpa using hy
        refine ⟨h1, fun h2 => ?_⟩
        have : inE e0 k := by unfold holdsE at hh0; unfold inE at h2 ⊢; omega
        have := free_one h he he0 h1 this
        subst this
        exact hc hh0
      · rintro ⟨h1, _⟩
        exact ⟨e, by simp, h1⟩
  constructor
  · rintro ⟨y, hy, h1⟩
    obtain ⟨e, he, hye⟩ := List.mem_flatMap.1 hy
    obtain ⟨h2, h3⟩ := (key e he).1 ⟨y, hye, h1⟩
    exact ⟨⟨e, he, h2⟩, h3⟩
  · rintro ⟨⟨e, he, h1⟩, h2⟩
    obtain ⟨y, hy, h3⟩ := (key e he).2 ⟨h1, h2⟩
    exact ⟨y, List.mem_flatMap.2 ⟨e, he, hy⟩, h3⟩
/-- Does a row share a block with an extent? -/
def hitsE (l : List Ext) (e : Ext) : Prop := ∃ x ∈ l, x.1 < e.1 + e.2 ∧ e.1 < x.1 + x.2
instance (l : List Ext) (e : Ext) : Decidable (hitsE l e) := by unfold hitsE; infer_instance
theorem hits_iff {b p : Int} {l : List Ext} (h : freeF b p l) {e : Ext} (he : 1 ≤ e.2) : hitsE l e ↔ ∃ k, inE e k ∧ memE l k := by
  constructor
  · rintro ⟨x, hx, h1, h2⟩
    have hl := (freeF_lies h x hx).1
    unfold liesE at hl
    exact ⟨max x.1 e.1, ⟨by omega, by omega⟩, x, hx, by omega, by omega⟩
  · rintro ⟨k, ⟨h1, h2⟩, x, hx, h3, h4⟩
    exact ⟨x, hx, by omega, by omega⟩
/-- A row with some blocks more. -/
def giveF : Ext → Bool → List Ext → List Ext
  | e, d, [] => if d then [] else [e]
  | e, d, x :: l =>
    if x.1 + x.2 = e.1 then giveF (x.1, x.2 + e.2) d l
    else if x.1 = e.1 + e.2 then giveF (e.1, e.2 + x.2) d l
    else if e.1 < x.1 ∧ d = false then e :: x :: giveF e true l
    else x :: giveF e d l
theorem giveF_true {e : Ext} : ∀ {l : List Ext}, (∀ x ∈ l, e.1 + e.2 < x.1 ∧ 1 ≤ x.2) → 1 ≤ e.2 → giveF e true l = l
  | [], _, _ => rfl
  | x :: l, h, he => by
    have hx := h x (by simp)
    unfold giveF
    rw [if_neg (by omega), if_neg (by omega), if_neg (by simp), giveF_true (fun y hy => h y (by simp [hy])) he]
theorem give_free {b : Int} : ∀ {l : List Ext} {p : Int} {e : Ext}, freeF b p l → liesE b e → p < e.1 → ¬ hitsE l e → freeF b p (giveF e false l) ∧ ∀ k, memE (giveF e false l) k ↔ memE l k ∨ inE e k
  | [], p, e, _, he, hp, _ => by
    unfold giveF
    rw [if_neg (by decide)]
    exact ⟨⟨⟨he, hp⟩, trivial⟩, fun k => by rw [memE_cons]; simp [memE]⟩
  | x :: l, p, e, h, he, hp, hn => by
    have hnx : ¬ (x.1 < e.1 + e.2 ∧ e.1 < x.1 + x.2) := fun hh => hn ⟨x, by simp, hh⟩
    have hnl : ¬ hitsE l e := fun ⟨y, hy, hh⟩ => hn ⟨y, by simp [hy], hh⟩
    have hx := h.1
    unfold liesE at hx
    have he' := he
    unfold liesE at he'
    have hafter : ∀ y ∈ l, x.1 + x.2 < y.1 ∧ 1 ≤ y.2 := fun y hy => by
      have := freeF_lies h.2 y hy; unfold liesE at this; omega
    unfold giveF
    split
    · rename_i h1
      have ih := give_free (l := l) (p := p) (e := (x.1, x.2 + e.2)) (freeF_mono h.2 (by omega)) (by unfold liesE; simp only; omega) (by simp only; omega) (fun ⟨y, hy, hh⟩ => by
        simp only at hh
        have := hafter y hy
        exact hnl ⟨y, hy, by omega, by omega⟩)
      refine ⟨ih.1, fun k => ?_⟩
      rw [ih.2 k, memE_cons]
      unfold inE
      simp only
      constructor
      · rintro (h2 | h2)
        · exact Or.inl (Or.inr h2)
        · by_cases h3 : k < x.1 + x.2
          · exact Or.inl (Or.inl ⟨h2.1, h3⟩)
          · exact Or.inr (by omega)
      · rintro ((h2 | h2) | h2)
        · exact Or.inr (by omega)
        · exact Or.inl h2
        · exact Or.inr (by omega)
    · rename_i h1
      split
      · rename_i h2
        have ih := give_free (l := l) (p := p) (e := (e.1, e.2 + x.2)) (freeF_mono h.2 (by omega)) (by unfold liesE; simp only; omega) (by simp only; omega) (fun ⟨y, hy, hh⟩ => by
          simp only at hh
          have := hafter y hy
          omega)
        refine ⟨ih.1, fun k => ?_⟩
        rw [ih.2 k, memE_cons]
        unfold inE
        simp only
        constructor
        · rintro (h3 | h3)
          · exact Or.inl (Or.inr h3)
          · by_cases h4 : k < e.1 + e.2
            · exact Or.inr ⟨h3.1, h4⟩
            · exact Or.inl (Or.inl (by omega))
        · rintro ((h3 | h3) | h3)
          · exact Or.inr (by omega)
          · exact Or.inl h3
          · exact Or.inr (by omega)
      · rename_i h2
        split
        · rename_i h3
          rw [giveF_true (fun y hy => by have := hafter y hy; omega) (by omega)]
          refine ⟨⟨⟨he, hp⟩, ⟨h.1.1, by omega⟩, h.2⟩, fun k => ?_⟩
          rw [memE_cons]
          exact ⟨fun h => h.elim Or.inr Or.inl, fun h => h.elim Or.inr Or.inl⟩
        · rename_i h3
          have hlt : x.1 + x.2 < e.1 := by
            have : ¬ e.1 < x.1 := fun hh => h3 ⟨hh, rfl⟩
            omega
          have ih := give_free (l := l) (p := x.1 + x.2) (e := e) h.2 he hlt hnl
          refine ⟨⟨h.1, ih.1⟩, fun k => ?_⟩
          rw [memE_cons, ih.2 k, memE_cons]
          exact ⟨fun h => by rcases h with h | h | h; exact Or.inl (Or.inl h); exact Or.inl (Or.inr h); exact Or.inr h, fun h => by rcases h with (h | h) | h; exact Or.inl h; exact Or.inr (Or.inl h); exact Or.inr (Or.inr h)⟩
/-- All others. -/
def otherF (b : Int) : Int → List Ext → List Ext
  | a, [] => if a < b then [(a, b - a)] else []
  | a, e :: l => (if a < e.1 then [(a, e.1 - a)] else []) ++ otherF b (e.1 + e.2) l
theorem other_free {b : Int} : ∀ {l : List Ext} {p a : Int}, freeF b p l → p < a → 0 ≤ a → (∀ e ∈ l, a ≤ e.1) → a ≤ b → freeF b p (otherF b a l) ∧ (∀ k, memE (otherF b a l) k ↔ a ≤ k ∧ k < b ∧ ¬ memE l k)
  | [], p, a, _, hp, h0, _, hab => by
    unfold otherF
    split
    · refine ⟨⟨⟨by unfold liesE; simp only; omega, hp⟩, trivial⟩, fun k => ?_⟩
      rw [memE_cons]
      unfold inE
      simp [memE]
      omega
    · exact ⟨trivial, fun k => by simp [memE]; omega⟩
  | e :: l, p, a, h, hp, h0, ha, hab => by
    have hae := ha e (by simp)
    have hl := h.1
    unfold liesE at hl
    have hafter : ∀ {k : Int}, memE l k → e.1 + e.2 < k := fun hk => (freeF_mem h.2 hk).1
    have ih := other_free (l := l) (p := e.1) (a := e.1 + e.2) (freeF_mono h.2 (by omega)) (by omega) (by omega) (fun y hy => by have := (freeF_lies h.2 y hy).2; omega) (by omega)
    unfold otherF
    constructor
    · split
      · exact ⟨⟨by unfold liesE; simp only; omega, hp⟩, freeF_mono ih.1 (by simp only; omega)⟩
      · exact freeF_mono ih.1 (by omega)
    · intro k
      rw [memE_app, ih.2 k, memE_cons]
      unfold inE
      constructor
      · rintro (h2 | ⟨h2, h3, h4⟩)
        · split at h2
          · obtain ⟨y, hy, h5, h6⟩ := h2
            simp at hy
            subst hy
            simp only at h5 h6
            refine ⟨h5, by omega, fun h7 => ?_⟩
            rcases h7 with h7 | h7
            · omega
            · have := hafter h7; omega
          · exact absurd h2 (memE_nil k)
        · exact ⟨by omega, h3, fun h7 => by rcases h7 with h7 | h7; omega; exact h4 h7⟩
      · rintro ⟨h2, h3, h4⟩
        rcases Int.lt_or_le k e.1 with h5 | h5
        · left
          rw [if_pos (by omega)]
          exact ⟨(a, e.1 - a), by simp, h2, by simp only; omega⟩
        · right
          refine ⟨?_, h3, fun h6 => h4 (Or.inr h6)⟩
          rcases Int.lt_or_le k (e.1 + e.2) with h6 | h6
          · exact absurd (Or.inl ⟨h5, h6⟩) h4
          · exact h6
def sumE : List Ext → Int
  | [] => 0
  | e :: l => e.2 + sumE l
theorem sumE_app : ∀ p q : List Ext, sumE (p ++ q) = sumE p + sumE q
  | [], q => by simp [sumE]
  | t :: p, q => by rw [List.cons_append, sumE, sumE, sumE_app p q]; omega
theorem sum_other {b : Int} : ∀ {l : List Ext} {p a : Int}, freeF b p l → (∀ e ∈ l, a ≤ e.1) → a ≤ b → sumE l + sumE (otherF b a l) = b - a
  | [], p, a, _, _, hab => by
    unfold otherF
    split <;> simp [sumE] <;> omega
  | e :: l, p, a, h, ha, hab => by
    have hae := ha e (by simp)
    have hl := h.1
    unfold liesE at hl
    have ih := sum_other (l := l) (p := e.1 + e.2) (a := e.1 + e.2) h.2 (fun y hy => by have := (freeF_lies h.2 y hy).2; omega) (by omega)
    unfold otherF
    rw [sumE_app, sumE]
    split <;> simp [sumE] <;> omega
theorem sum_bound {b : Int} : ∀ {l : List Ext} {p : Int}, freeF b p l → p + 1 ≤ b → 0 ≤ sumE l ∧ sumE l ≤ b - p
  | [], p, _, hb => by simp [sumE]; omega
  | e :: l, p, h, hb => by
    have hl := h.1
    unfold liesE at hl
    rcases Int.lt_or_le (e.1 + e.2) b with hlt | hge
    · have ih := sum_bound h.2 (by omega)
      rw [sumE]; omega
    · have : l = [] := by
        cases l with
        | nil => rfl
        | cons x l =>
          obtain ⟨⟨⟨x1, x2, x3⟩, x4⟩, _⟩ := h.2
          omega
      subst this
      simp [sumE]; omega
end Go.Proofs.Ytglbcejcibohpaa
