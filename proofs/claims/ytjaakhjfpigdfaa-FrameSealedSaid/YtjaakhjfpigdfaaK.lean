import Derived.WalkKit
import Derived.WalkLawsBesides
import Derived.KernelRfl
import Derived.Lib.Hide
import Derived.Lib.SlBytesConst
import Derived.Lib.SmallJoins
import Derived.Deep.QuietTactic
import Derived.BigQuiet
import Derived.Deep.OwnRows
import Derived.Maps.AppendAt
import Derived.ChangeKeysEq
import Derived.StillTailTactics
import Derived.Laws.OwnMore
import Derived.Laws.CopyRow
/-! What all walks of this seat lean on: rows that are read, rows of one's own, new blocks. No program is named here. -/
namespace Go.Proofs.Ytjaakhjfpigdfaa
open Go.RowKit
set_option linter.unusedVariables false
set_option linter.unusedSimpArgs false

theorem ret_int {k : IntKind} {a b : Int} (h : a = b) : Ending.returned (.int k a) = .returned (.int k b) := by rw [h]
theorem xor32 (a b : BitVec 32) : bits .xor .u32 (a.toNat : Int) (b.toNat : Int) = ((a ^^^ b).toNat : Int) := by rw [u32_xor_nat _ _ a.isLt b.isLt]; simp
theorem xor8 (a b : BitVec 8) : bits .xor .u8 (a.toNat : Int) (b.toNat : Int) = ((a ^^^ b).toNat : Int) := by rw [u8_xor_nat _ _ a.isLt b.isLt]; simp
theorem or32 (a b : BitVec 32) : bits .or .u32 (a.toNat : Int) (b.toNat : Int) = ((a ||| b).toNat : Int) := by rw [u32_or_nat _ _ a.isLt b.isLt]; simp
/-- A row of one-cell elements as it is read: element j lies at its place and is what R says. -/
def RdR {α : Type} (R : α → Value → Prop) (w : World) (A : Option Addr) (l : List α) : Prop :=
  l.length ≤ 9223372036854775807 ∧ ∀ j (h : j < l.length), ∃ ad v, A = some ad ∧ w.cell? (ad.add j) = some v ∧ R l[j] v
/-- A byte. -/
def EqB (x : BitVec 8) (v : Value) : Prop := v = .int .u8 (x.toNat : Int)
abbrev RdB (w : World) (A : Option Addr) (l : List (BitVec 8)) : Prop := RdR EqB w A l
theorem RdR.below {α : Type} {R R' : α → Value → Prop} {w w' : World} {A : Option Addr} {l : List α} (h : RdR R w A l) (hb : Below w.heap.size w w') (hR : ∀ x v, R x v → R' x v) : RdR R' w' A l :=
  ⟨h.1, fun j hj => by
    obtain ⟨ad, v, e, hc, hr⟩ := h.2 j hj
    exact ⟨ad, v, e, (hb.cell (World.block_lt_of_cell? w _ hc)).trans hc, hR _ _ hr⟩⟩
theorem RdB.at' {w : World} {A : Option Addr} {l : List (BitVec 8)} (h : RdB w A l) (k : Nat) (hk : k < l.length) : ∃ ad, A = some ad ∧ w.cell? (ad.add k) = some (.int .u8 (l[k].toNat : Int)) := by
  obtain ⟨ad, v, e, hc, hr⟩ := h.2 k hk
  exact ⟨ad, e, by rw [hc, hr]⟩
/-- Some orders have been drawn, no more. -/
def Drawn (w w' : World) : Prop := ∃ n, w' = w.drewN n
theorem Drawn.refl (w : World) : Drawn w w := ⟨0, rfl⟩
theorem Drawn.below {w w' : World} (h : Drawn w w') : Below w.heap.size w w' := by
  obtain ⟨n, rfl⟩ := h
  exact ⟨rfl, rfl, rfl, Nat.le_refl _, fun _ _ => rfl⟩
theorem Drawn.cell {w w' : World} (h : Drawn w w') {a : Addr} {v : Value} (hc : w.cell? a = some v) : w'.cell? a = some v := by
  obtain ⟨n, rfl⟩ := h; exact hc
theorem Drawn.drewN {w w' : World} (h : Drawn w w') (n : Nat) : Drawn w (w'.drewN n) := by
  obtain ⟨m, rfl⟩ := h; exact ⟨m + n, World.drewN_drewN ..⟩
/-- A slice of bytes as a value. -/
def EqP (w : World) (p : List (BitVec 8)) (v : Value) : Prop := ∃ A c, v = .slice A p.length c ∧ p.length ≤ c ∧ RdB w A p
abbrev RdP (w : World) (A : Option Addr) (ps : List (List (BitVec 8))) : Prop := RdR (EqP w) w A ps
theorem EqP.below {w w' : World} (hb : Below w.heap.size w w') (p : List (BitVec 8)) (v : Value) (h : EqP w p v) : EqP w' p v := by
  obtain ⟨A, c, e, hl, hr⟩ := h
  exact ⟨A, c, e, hl, hr.below hb (fun _ _ h => h)⟩
theorem RdP.at' {w : World} {A : Option Addr} {ps : List (List (BitVec 8))} (h : RdP w A ps) (k : Nat) (hk : k < ps.length) : ∃ ad A' c, A = some ad ∧ w.cell? (ad.add k) = some (.slice A' ps[k].length c) ∧ ps[k].length ≤ c ∧ RdB w A' ps[k] := by
  obtain ⟨ad, v, e, hc, A', c, rfl, hl, hr⟩ := h.2 k hk
  exact ⟨ad, A', c, e, hc, hl, hr⟩
theorem RdR.take {α : Type} {R : α → Value → Prop} {w : World} {A : Option Addr} {l : List α} (h : RdR R w A l) (n : Nat) : RdR R w A (l.take n) :=
  ⟨by have := h.1; have := List.length_take_le' n l; omega, fun j hj => by
    have hj' : j < l.length := by rw [List.length_take] at hj; omega
    obtain ⟨ad, v, e, hc, hr⟩ := h.2 j hj'
    exact ⟨ad, v, e, hc, by rw [List.getElem_take]; exact hr⟩⟩
theorem cell_new (W : World) (C : Array Value) (e : TypeId) (m : Nat × Nat) (j : Nat) (v : Value) (h : C[j]? = some v) : (W.alloc (.cells C e m)).cell? ⟨W.heap.size, j, none⟩ = some v := by
  show (match (W.heap.push (.cells C e m))[W.heap.size]? with
    | some (.cells c _ _) => if (none : Option Nat).isSome then none else c[j]?
    | _ => none) = some v
  rw [Array.getElem?_push_size]
  simpa using h
theorem cell_old {W : World} (o : Obj) {a : Addr} {v : Value} (h : W.cell? a = some v) : (W.alloc o).cell? a = some v := Lib.cell?_alloc_marked o h
theorem RdR.new {α : Type} {R : α → Value → Prop} (W : World) (l : List α) (C : Array Value) (e : TypeId) (m : Nat × Nat) (hm : l.length ≤ 9223372036854775807)
    (h : ∀ j (hj : j < l.length), ∃ v, C[j]? = some v ∧ R l[j] v) : RdR R (W.alloc (.cells C e m)) (some ⟨W.heap.size, 0, none⟩) l :=
  ⟨hm, fun j hj => by
    obtain ⟨v, hv, hr⟩ := h j hj
    refine ⟨_, v, rfl, ?_, hr⟩
    have e0 : (⟨W.heap.size, 0, none⟩ : Addr).add j = ⟨W.heap.size, j, none⟩ := by unfold Addr.add; split <;> simp_all
    rw [e0]
    exact cell_new W C e m j v hv⟩
theorem RdR.alloc {α : Type} {R R' : α → Value → Prop} {w : World} {A : Option Addr} {l : List α} (h : RdR R w A l) (o : Obj) (hR : ∀ x v, R x v → R' x v) : RdR R' (w.alloc o) A l :=
  ⟨h.1, fun j hj => by
    obtain ⟨ad, v, e, hc, hr⟩ := h.2 j hj
    exact ⟨ad, v, e, cell_old o hc, hR _ _ hr⟩⟩
theorem RdB.alloc' {w : World} {A : Option Addr} {l : List (BitVec 8)} (h : RdB w A l) (o : Obj) : RdB (w.alloc o) A l := RdR.alloc h o fun _ _ h => h
theorem RdB.new' (W : World) (l : List (BitVec 8)) (C : Array Value) (e : TypeId) (m : Nat × Nat) (hm : l.length ≤ 9223372036854775807) (hC : C = (l.map fun x => Value.int .u8 (x.toNat : Int)).toArray) :
    RdB (W.alloc (.cells C e m)) (some ⟨W.heap.size, 0, none⟩) l :=
  RdR.new W l C e m hm fun j hj => ⟨_, by subst hC; simp [List.getElem?_eq_getElem hj], rfl⟩
theorem size_alloc (W : World) (o : Obj) : (W.alloc o).heap.size = W.heap.size + 1 := by show (W.heap.push o).size = _; simp
theorem RdB.newAt (W : World) (l : List (BitVec 8)) (C : Array Value) (e : TypeId) (m : Nat × Nat) (g : Nat) (hg : g = W.heap.size) (hm : l.length ≤ 9223372036854775807) (hC : C = (l.map fun x => Value.int .u8 (x.toNat : Int)).toArray) :
    RdB (W.alloc (.cells C e m)) (some ⟨g, 0, none⟩) l := by subst hg; exact RdB.new' W l C e m hm hC
theorem EqP.alloc {W : World} (o : Obj) (p : List (BitVec 8)) (v : Value) (h : EqP W p v) : EqP (W.alloc o) p v := by
  obtain ⟨A, c, e, hl, hr⟩ := h
  exact ⟨A, c, e, hl, hr.alloc' o⟩
theorem RdP.two (W : World) (p q : List (BitVec 8)) (A B : Option Addr) (np nq c d : Nat) (e : TypeId) (m : Nat × Nat) (g : Nat) (hg : g = W.heap.size) (h1 : RdB W A p) (h2 : RdB W B q) (hp : np = p.length) (hq : nq = q.length) (hc : np ≤ c) (hd : nq ≤ d) :
    RdP (W.alloc (.cells #[.slice A np c, .slice B nq d] e m)) (some ⟨g, 0, none⟩) [p, q] := by
  subst hg hp hq
  refine RdR.new W [p, q] _ e m (by simp) fun j hj => ?_
  match j, hj with
  | 0, _ => exact ⟨_, rfl, A, c, rfl, hc, h1.alloc' _⟩
  | 1, _ => exact ⟨_, rfl, B, d, rfl, hd, h2.alloc' _⟩
theorem RdP.one (W : World) (p : List (BitVec 8)) (A : Option Addr) (np c : Nat) (e : TypeId) (m : Nat × Nat) (g : Nat) (hg : g = W.heap.size) (h1 : RdB W A p) (hp : np = p.length) (hc : np ≤ c) :
    RdP (W.alloc (.cells #[.slice A np c] e m)) (some ⟨g, 0, none⟩) [p] := by
  subst hg hp
  refine RdR.new W [p] _ e m (by simp) fun j hj => ?_
  match j, hj with
  | 0, _ => exact ⟨_, rfl, A, c, rfl, hc, h1.alloc' _⟩
theorem RdP.nil (W : World) (A : Option Addr) : RdP W A [] := ⟨by simp, fun j hj => by simp at hj⟩
theorem setRow_new (W : World) (c a : Array Value) (t : TypeId) (m : Nat × Nat) (g : Nat) (hg : g = W.heap.size) : (W.alloc (.cells c t m)).setRow g a = W.alloc (.cells a t m) := by
  subst hg
  unfold World.setRow World.alloc
  congr 1
  apply Array.ext
  · simp
  · intro i h1 h2
    simp only [Array.getElem_modify, Array.getElem_push]
    by_cases h : W.heap.size = i
    · subst h; simp
    · have : i < W.heap.size := by simp at h1; omega
      simp [h, this]
theorem setRow_old (W : World) (o : Obj) (a : Array Value) (g : Nat) (hg : g < W.heap.size) : (W.alloc o).setRow g a = (W.setRow g a).alloc o := by
  unfold World.setRow World.alloc
  congr 1
  apply Array.ext
  · simp
  · intro i h1 h2
    simp only [Array.getElem_modify, Array.getElem_push, Array.size_modify]
    by_cases h : g = i
    · subst h; simp [hg]
    · by_cases hi : i < W.heap.size <;> simp [h, hi]
theorem heap_new (W : World) (o : Obj) (g : Nat) (hg : g = W.heap.size) : (W.alloc o).heap[g]? = some o := by
  subst hg
  show (W.heap.push o)[W.heap.size]? = _
  simp
theorem heap_old {W : World} (o : Obj) {g : Nat} {o' : Obj} (_h : True) (h : W.heap[g]? = some o') : (W.alloc o).heap[g]? = some o' := by
  have hlt : g < W.heap.size := (Array.getElem?_eq_some_iff.1 h).1
  show (W.heap.push o)[g]? = _
  rw [Array.getElem?_push_lt hlt]
  rw [← h, Array.getElem?_eq_getElem hlt]
theorem add_zero_off (b j : Nat) : (⟨b, 0, none⟩ : Addr).add j = ⟨b, j, none⟩ := by unfold Addr.add; split <;> simp_all
theorem run_eqItems_int {P : Program} (d : Nat) {e : TypeId} {k : IntKind} (he : P.underlying e = some (.int k)) (hp : P.plainKey e = true) (hc : P.cellsOf e = 1) (xs ys : List Int) (w : World) :
    ∀ is : List Nat, (∀ j ∈ is, j < xs.length ∧ j < ys.length) →
      (Op.eqItems (d + 1) e (P.cellsOf e) (xs.map (Value.int k)).toArray (ys.map (Value.int k)).toArray is).run P w = .ok (is.all fun j => xs.getD j 0 == ys.getD j 0) w
  | [], _ => by simp [Op.eqItems]
  | j :: is, h => by
    have hj := h j (by simp)
    have ih := run_eqItems_int d he hp hc xs ys w is (fun j hj => h j (by simp [hj]))
    rw [hc] at ih ⊢
    simp only [Op.eqItems, Sem.run_bind, Nat.mul_one]
    have px : (part e (xs.map (Value.int k)).toArray j).run P w = .ok (.int k (xs.getD j 0)) w :=
      run_part_plain w hp (by simp [List.getElem?_eq_getElem hj.1])
    have py : (part e (ys.map (Value.int k)).toArray j).run P w = .ok (.int k (ys.getD j 0)) w :=
      run_part_plain w hp (by simp [List.getElem?_eq_getElem hj.2])
    rw [px]
    simp only [Result.andThen_ok]
    rw [py]
    simp only [Result.andThen_ok]
    rw [run_equalIn_int w d e k k _ _ he]
    simp only [Result.andThen_ok, List.all_cons]
    cases hq : (xs.getD j 0 == ys.getD j 0)
    · simp
    · simpa using ih
/-- Two arrays of n whole numbers are equal just where their rows are. -/
theorem run_eq_ints {P : Program} {t e : TypeId} {n : Nat} {k : IntKind} {i : TypeInfo} (ht : P.underlying t = some (.array n e)) (hi : P.info? e = some i) (he : P.underlying e = some (.int k)) (hp : P.plainKey e = true) (hc : P.cellsOf e = 1)
    (xs ys : List Int) (hx : xs.length = n) (hy : ys.length = n) (w : World) :
    (Op.equalIn 10000 t (.agg (xs.map (Value.int k)).toArray) (.agg (ys.map (Value.int k)).toArray)).run P w = .ok (xs == ys) w := by
  rw [run_equalIn_array w 9999 _ _ ht hi, run_eqItems_int 9998 he hp hc xs ys w _ (fun j hj => by have := List.mem_range.1 hj; omega)]
  congr 1
  rw [Bool.eq_iff_iff, List.all_eq_true, beq_iff_eq]
  constructor
  · intro h
    apply List.ext_getElem (by omega)
    intro j h1 h2
    have := h j (List.mem_range.2 (by omega))
    simpa [List.getElem?_eq_getElem h1, List.getElem?_eq_getElem h2] using this
  · rintro rfl j _; simp
theorem add_add' (a : Addr) (m n : Nat) : (a.add m).add n = a.add (m + n) := by
  unfold Addr.add
  by_cases hm : m = 0
  · subst hm; simp
  · by_cases hn : n = 0
    · subst hn; simp [hm]
    · simp [hm, hn, Nat.add_assoc]
theorem RdR.drop {α : Type} {R : α → Value → Prop} {w : World} {A : Option Addr} {l : List α} (h : RdR R w A l) (n c : Nat) (hn : n ≤ l.length) (hc : l.length ≤ c) :
    RdR R w (if c = n then A else Option.map (fun x => x.add n) A) (l.drop n) :=
  ⟨by have := h.1; rw [List.length_drop]; omega, fun j hj => by
    rw [List.length_drop] at hj
    obtain ⟨ad, v, e, hcell, hr⟩ := h.2 (n + j) (by omega)
    refine ⟨ad.add n, v, by rw [if_neg (by omega), e]; rfl, by rw [add_add']; exact hcell, by rw [List.getElem_drop]; exact hr⟩⟩
theorem RdP.own {w1 w2 : World} {base g n cap : Nat} {e : TypeId} {cells : List Value} {ps : List (List (BitVec 8))} (h : w2.ownsRow base e 1 (.slice (some ⟨g, 0, none⟩) n cap) n cells) (hn : n = ps.length) (hm : n ≤ 9223372036854775807)
    (hcs : ∀ j (h : j < ps.length), ∃ v, cells[j]? = some v ∧ EqP w1 ps[j] v) (hb : Below w1.heap.size w1 w2) : RdP w2 (some ⟨g, 0, none⟩) ps :=
  ⟨by omega, fun j hj => by
    obtain ⟨v, hv, he⟩ := hcs j hj
    refine ⟨_, v, rfl, ?_, EqP.below hb _ _ he⟩
    exact h.cells (g := g) rfl j _ hv⟩
theorem own_base' {w : World} {base : Nat} {e : TypeId} {size n : Nat} {v : Value} {xs : List Value} (h : w.ownsRow base e size v n xs) (k : Nat) (hk : v.ownBlock = some k) : base ≤ k := by
  rcases h.2 with ⟨rfl, _⟩ | ⟨g, cap, cur, rfl, hb, _⟩
  · simp [Value.ownBlock] at hk
  · have : g = k := by simpa [Value.ownBlock] using hk
    omega
theorem oneSlice (A : Option Addr) (n c : Nat) : ∀ u ∈ [Value.slice A n c], u.oneCell' = true := by intro u hu; simp at hu; subst hu; rfl
theorem append_base {B : Nat} {w wr : World} (h : Below B w wr) (hB : B ≤ w.heap.size) (o : Obj) : B ≤ (wr.alloc o).heap.size := by have := h.size; rw [size_alloc]; omega
def bytesV (l : List (BitVec 8)) : List Value := l.map fun x => Value.int .u8 (x.toNat : Int)
theorem own_empty (w : World) (e : TypeId) (size : Nat) : (w.alloc (.cells #[] e)).ownsRow w.heap.size e size (.slice (some ⟨w.heap.size, 0, none⟩) 0 0) 0 [] :=
  ⟨by simp, .inr ⟨w.heap.size, 0, #[], rfl, Nat.le_refl _, by show (w.heap.push _)[_]? = _; simp, Nat.le_refl _, by simp [maxLen], by simp, by simp⟩⟩
theorem bytesV_one (l : List (BitVec 8)) : ∀ u ∈ bytesV l, u.oneCell' = true := by
  intro u hu
  obtain ⟨x, _, rfl⟩ := List.mem_map.1 hu
  rfl
theorem bytesV_cells {w : World} {ad : Addr} {l : List (BitVec 8)} (h : RdB w (some ad) l) : ∀ j u, (bytesV l)[j]? = some u → w.cell? (ad.add j) = some u := by
  intro j u hu
  obtain ⟨hj, hu⟩ := List.getElem?_eq_some_iff.1 hu
  have hj' : j < l.length := by simpa [bytesV] using hj
  obtain ⟨ad', e, hc⟩ := RdB.at' h j hj'
  obtain rfl := Option.some.inj e
  rw [hc, ← hu]
  simp [bytesV]
theorem RdB.own {w : World} {base g n cap : Nat} {e : TypeId} {l : List (BitVec 8)} (h : w.ownsRow base e 1 (.slice (some ⟨g, 0, none⟩) n cap) n (bytesV l)) : RdB w (some ⟨g, 0, none⟩) l := by
  have hl : l.length = n := by have := h.1; simpa [bytesV] using this
  have hm : n ≤ maxLen := by
    rcases h.2 with ⟨_, h1⟩ | ⟨g', cap', cur, he, _, _, h1, h2, _⟩
    · omega
    · simp only [Value.slice.injEq] at he; omega
  refine ⟨by rw [hl]; exact hm, fun j hj => ⟨_, _, rfl, h.cells (g := g) rfl j _ ?_, rfl⟩⟩
  simp [bytesV, List.getElem?_eq_getElem hj]
theorem own_cap {w : World} {base g n cap size : Nat} {e : TypeId} {xs : List Value} (h : w.ownsRow base e size (.slice (some ⟨g, 0, none⟩) n cap) n xs) : n ≤ cap := by
  rcases h.2 with ⟨h0, _⟩ | ⟨g', cap', cur, he, _, _, h1, _⟩
  · simp at h0
  · simp only [Value.slice.injEq] at he; omega
end Go.Proofs.Ytjaakhjfpigdfaa
