import Derived.Test.YtglbcejcibohpaaA
import Derived.Deep.RegionHeld3
/-! The document's Check; rows as they are read. -/
namespace Go.Proofs.Ytglbcejcibohpaa
open Go.RowKit
set_option linter.unusedVariables false
set_option linter.unusedSimpArgs false
/-- A row of extents as it is read. -/
def RdE (w : World) (A : Option Addr) (l : List Ext) : Prop :=
  l.length ≤ 9223372036854775807 ∧ ∀ j (h : j < l.length), ∃ ad, A = some ad ∧ w.cell? (ad.add (j * 2)) = some (.int .i64 l[j].1) ∧ w.cell? ⟨(ad.add (j * 2)).block, (ad.add (j * 2)).off + 1, none⟩ = some (.int .i64 l[j].2) ∧ I64 l[j].1 ∧ I64 l[j].2
theorem RdE.below {w w' : World} {A : Option Addr} {l : List Ext} (h : RdE w A l) (hb : Below w.heap.size w w') : RdE w' A l :=
  ⟨h.1, fun j hj => by
    obtain ⟨ad, e, h0, h1, h2⟩ := h.2 j hj
    exact ⟨ad, e, (hb.cell (World.block_lt_of_cell? w _ h0)).trans h0, (hb.cell (World.block_lt_of_cell? w _ h1)).trans h1, h2⟩⟩
theorem RdE.nil (w : World) (A : Option Addr) : RdE w A [] := ⟨by simp, fun j hj => by simp at hj⟩
theorem RdE.take {w : World} {A : Option Addr} {l : List Ext} (h : RdE w A l) (n : Nat) : RdE w A (l.take n) :=
  ⟨by have := h.1; rw [List.length_take]; omega, fun j hj => by
    have hj' : j < l.length := by rw [List.length_take] at hj; omega
    obtain ⟨ad, e, h0, h1, h2⟩ := h.2 j hj'
    exact ⟨ad, e, by rw [List.getElem_take]; exact h0, by rw [List.getElem_take]; exact h1, by rw [List.getElem_take]; exact h2⟩⟩
/-- Where the extent ahead of place k ends. -/
def endAt (p : Int) (l : List Ext) : Nat → Int
  | 0 => p
  | k + 1 => (l.getD k (0, 0)).1 + (l.getD k (0, 0)).2
def OkTo (b : Int) (l : List Ext) (k : Nat) : Prop := ∀ j (h : j < l.length), j < k → liesE b l[j] ∧ endAt (-1) l j < l[j].1
theorem OkTo.next {b : Int} {l : List Ext} {k : Nat} (h : OkTo b l k) (hk : k < l.length) (h1 : liesE b l[k]) (h2 : endAt (-1) l k < l[k].1) : OkTo b l (k + 1) := fun j hj hjk => by
  rcases Nat.eq_or_lt_of_le (Nat.le_of_lt_succ hjk) with rfl | h'
  · exact ⟨h1, h2⟩
  · exact h j hj h'
theorem free_index {b : Int} : ∀ {l : List Ext} {p : Int}, freeF b p l ↔ ∀ j (h : j < l.length), liesE b l[j] ∧ endAt p l j < l[j].1
  | [], p => ⟨fun _ j h => by simp at h, fun _ => trivial⟩
  | e :: l, p => by
    unfold freeF
    rw [free_index (l := l)]
    constructor
    · rintro ⟨h0, h⟩ j hj
      cases j with
      | zero => exact h0
      | succ j =>
        have := h j (by simpa using hj)
        refine ⟨this.1, ?_⟩
        have e1 := this.2
        cases j <;> simpa [endAt] using e1
    · intro h
      refine ⟨h 0 (by simp), fun j hj => ?_⟩
      have := h (j + 1) (by simpa using hj)
      refine ⟨this.1, ?_⟩
      have e1 := this.2
      cases j <;> simpa [endAt] using e1
theorem OkTo.all {b : Int} {l : List Ext} {k : Nat} (h : OkTo b l k) (hk : l.length ≤ k) : freeE b l := free_index.2 fun j hj => h j hj (by omega)
theorem OkTo.not {b : Int} {l : List Ext} {k : Nat} (hk : k < l.length) (h : ¬ (liesE b l[k] ∧ endAt (-1) l k < l[k].1)) : ¬ freeE b l := fun hf => h (free_index.1 hf k hk)
theorem endAt_succ (p : Int) (l : List Ext) (k : Nat) (h : k < l.length) : endAt p l (k + 1) = l[k].1 + l[k].2 := by
  simp [endAt, List.getD_eq_getElem?_getD, List.getElem?_eq_getElem h]
theorem check_bad {b : Int} {l : List Ext} (h : b < 0 ∨ 4096 < b) : checkE b l = 1 := by unfold checkE; rw [if_pos h]
theorem check_yes {b : Int} {l : List Ext} (h : 0 ≤ b ∧ b ≤ 4096) (hf : freeE b l) : checkE b l = 0 := by unfold checkE; rw [if_neg (by omega), if_pos hf]
theorem check_no {b : Int} {l : List Ext} (h : 0 ≤ b ∧ b ≤ 4096) (hf : ¬ freeE b l) : checkE b l = 100 := by unfold checkE; rw [if_neg (by omega), if_neg hf]
theorem keepA {w : World} {a : Addr} {v : Value} {o : Obj} (h : w.cell? a = some v) : (w.alloc o).cell? a = some v := cell_old o h
theorem keepB {w w' : World} {a : Addr} {v : Value} (h : Below w.heap.size w w') (hc : w.cell? a = some v) : w'.cell? a = some v := (h.cell (World.block_lt_of_cell? w _ hc)).trans hc
theorem keepD {w : World} {a : Addr} {v : Value} (h : w.cell? a = some v) : w.drew.cell? a = some v := h
theorem below_dr {B : Nat} {a w : World} (h : Below B a w) (n : Nat) : Below B a (w.drewN n) := ⟨h.os, h.tape, h.output, h.size, h.block⟩

set_option maxRecDepth 100000 in
set_option maxHeartbeats 40000000 in
theorem rcheck_any (b : Int) (l : List Ext) (A : Option Addr) (cap : Nat) (w : World) (hb : I64 b) (hr : RdE w A l) (hl : l.length ≤ cap) :
    Calls Try.prog 15 #[.int .i64 b, .slice A l.length cap] w fun e w' => e = .returned (.int .i64 (checkE b l)) ∧ Below w.heap.size w w' := by
  obtain ⟨b1, b2⟩ := hb
  have hm := hr.1
  have Hr := Lib.hid hr
  clear hr
  by_cases hbad : b < 0 ∨ 4096 < b
  · rw [check_bad hbad]
    have hc : b < 0 ∨ (0 ≤ b ∧ 4096 < b) := by omega
    clear hbad
    rcases hc with h | ⟨h1, h2⟩
    all_goals
      go_enter Try.func15, Try.ntmps15
      go_wp2
      go_ret
      exact ⟨rfl, Below.refl _ _⟩
  · have hb0 : 0 ≤ b ∧ b ≤ 4096 := by omega
    obtain ⟨h1, h2⟩ := hb0
    obtain ⟨T, hT⟩ : ∃ T, checkE b l = T := ⟨_, rfl⟩
    rw [hT]
    have HT := Lib.hid hT
    clear hT hbad
    go_enter Try.func15, Try.ntmps15
    go_wp2
    go_loopw [5] (fun i wr => ∃ k : Nat, k ≤ l.length ∧ i = .int .i64 k ∧ OkTo b l k ∧ Below w.heap.size w wr) (fun i _ => l.length - (intOf i).toNat)
    case atStart => exact ⟨0, Nat.zero_le _, rfl, fun j _ h => by omega, Below.refl _ _⟩
    case round =>
      obtain ⟨k, hk, rfl, hok, hbel⟩ := hrel
      have hsr := hbel.size
      by_cases hlt : k < l.length
      · obtain ⟨ad, hAd, c0, c1, i1, i2⟩ := (Hr.out.below hbel).2 k hlt
        have LI := Lib.hid (fun w => rlies_any b l[k].1 l[k].2 w ⟨h1, h2⟩ i1 i2)
        have Hnext := Lib.hid (fun a c => OkTo.next hok hlt a c)
        have Hnot := Lib.hid (fun h => OkTo.not (b := b) hlt h)
        have Hprev := fun (h : 0 < k) => (Hr.out.below hbel).2 (k - 1) (by omega)
        have hend := fun (h : 0 < k) => endAt_succ (-1) l (k - 1) (by omega)
        have hpok := fun (h : 0 < k) => hok (k - 1) (by omega) (by omega)
        obtain ⟨⟨a, n⟩, ht⟩ : ∃ t, l[k] = t := ⟨_, rfl⟩
        rw [ht] at c0 c1 LI Hnext Hnot i1 i2
        simp only at c0 c1 LI i1 i2
        subst hAd
        have hb1 : Below w.heap.size w (wr.alloc (eO a n)) := hbel.alloc hsr _
        by_cases hlies : 0 ≤ a ∧ 1 ≤ n ∧ a + n ≤ b
        · have LI : Hid (∀ w : World, Calls Try.prog 32 #[.int .i64 b, eV a n] w fun e w' => e = .returned (.bool true) ∧ w.alloc (eO a n) = w') := fun w => by have := LI.out w; rw [lies_yes hlies] at this; exact this
          rcases Nat.eq_zero_or_pos k with hk0 | hk0
          · have HE0 := Lib.hid (show endAt (-1) l k = -1 by rw [hk0]; rfl)
            have k0' : decide (0 < (k : Int)) = false := by simp; omega
            have k0'' : decide (0 < k) = false := by simp; omega
            clear hk0 Hprev hend hpok hok ht
            go_wp2
            refine wp_region_noPanic ?_
            refine wp_region_held_drew (S := fun W => W.cell? (ad.add (k * 2)) = some (.int .i64 a) ∧ W.cell? ⟨(ad.add (k * 2)).block, (ad.add (k * 2)).off + 1, none⟩ = some (.int .i64 n)) (by kernel_rfl) ⟨c0, c1⟩ (fun _ => ?_)
            refine wpAnyH_take (i := 0) (oi := { dst := some 18, op := Go.Op.move (Go.Operand.tmp 0), type := 3, pos := "ref.go:17", after := #[], guard := none }) (v := ?_) rfl (by kernel_rfl) (by kernel_rfl) (by kernel_rfl) (fun _ _ _ h => h) (Or.inl ⟨by kernel_rfl, ?_⟩) (⟨c0, c1⟩) ?_
            rotate_left
            · intro W hSw
              obtain ⟨s0, s1⟩ := hSw
              go_simp
              all_goals with_reducible rfl
            try simp only [Act.put, List.setIfInBounds_toArray, List.set_cons_zero, List.set_cons_succ]
            refine wpAnyH_take (i := 1) (oi := { dst := some 19, op := Go.Op.move (Go.Operand.tmp 1), type := 22, pos := "ref.go:17", after := #[], guard := none }) (v := ?_) rfl (by kernel_rfl) (by kernel_rfl) (by kernel_rfl) (fun _ _ _ h => h) (Or.inl ⟨by kernel_rfl, ?_⟩) (⟨c0, c1⟩) ?_
            rotate_left
            · intro W hSw
              obtain ⟨s0, s1⟩ := hSw
              go_simp
              all_goals with_reducible rfl
            try simp only [Act.put, List.setIfInBounds_toArray, List.set_cons_zero, List.set_cons_succ]
            refine wpAnyH_take (i := 2) (oi := { dst := some 20, op := Go.Op.move (Go.Operand.tmp 5), type := 3, pos := "ref.go:17", after := #[], guard := none }) (v := ?_) rfl (by kernel_rfl) (by kernel_rfl) (by kernel_rfl) (fun _ _ _ h => h) (Or.inl ⟨by kernel_rfl, ?_⟩) (⟨c0, c1⟩) ?_
            rotate_left
            · intro W hSw
              obtain ⟨s0, s1⟩ := hSw
              go_simp
              all_goals with_reducible rfl
            try simp only [Act.put, List.setIfInBounds_toArray, List.set_cons_zero, List.set_cons_succ]
            refine wpAnyH_take (i := 3) (oi := { dst := some 21, op := Go.Op.indexAddr 22 (Go.Operand.tmp 19) (Go.Operand.tmp 20), type := 0, pos := "ref.go:17", after := #[{ on := 1, ground := Go.Ground.data }, { on := 2, ground := Go.Ground.data }], guard := none }) (v := ?_) rfl (by kernel_rfl) (by kernel_rfl) (by kernel_rfl) (fun _ _ _ h => h) (Or.inl ⟨by kernel_rfl, ?_⟩) (⟨c0, c1⟩) ?_
            rotate_left
            · intro W hSw
              obtain ⟨s0, s1⟩ := hSw
              go_simp
              all_goals with_reducible rfl
            try simp only [Act.put, List.setIfInBounds_toArray, List.set_cons_zero, List.set_cons_succ]
            refine wpAnyH_take (i := 4) (oi := { dst := some 22, op := Go.Op.load 25 (Go.Operand.tmp 21), type := 25, pos := "ref.go:17", after := #[{ on := 3, ground := Go.Ground.data }], guard := none }) (v := ?_) rfl (by kernel_rfl) (by kernel_rfl) (by kernel_rfl) (fun _ _ _ h => h) (Or.inl ⟨by kernel_rfl, ?_⟩) (⟨c0, c1⟩) ?_
            rotate_left
            · intro W hSw
              obtain ⟨s0, s1⟩ := hSw
              go_simp
              all_goals with_reducible rfl
            try simp only [Act.put, List.setIfInBounds_toArray, List.set_cons_zero, List.set_cons_succ]
            refine wpAnyH_ready (rs := [5]) (by kernel_rfl) (by simp) ?_
            refine AllReadyH.cons rfl (fun K hK => ?_) AllReadyH.nil
            go_simp
            refine (LI.out _).mono ?_
            rintro e w' ⟨rfl, rfl⟩
            go_wp2_with fail
            refine hK.out _ _ (⟨keepA (keepD c0), keepA (keepD c1)⟩) (fun _ => ?_)
            clear hK K
            try simp only [Act.put, List.setIfInBounds_toArray, List.set_cons_zero, List.set_cons_succ]
            refine wpAnyH_take (i := 6) (oi := { dst := some 24, op := Go.Op.unOp Go.UnOp.not 4 (Go.Operand.tmp 23), type := 4, pos := "ref.go:17", after := #[{ on := 5, ground := Go.Ground.data }], guard := none }) (v := .bool false) rfl (by kernel_rfl) (by kernel_rfl) (by kernel_rfl) (fun _ _ _ h => h) (Or.inl ⟨by kernel_rfl, ?_⟩) (⟨keepA (keepD c0), keepA (keepD c1)⟩) ?_
            · intro W hSw
              go_simp
            try simp only [Act.put, List.setIfInBounds_toArray, List.set_cons_zero, List.set_cons_succ]
            refine wpAnyH_take (i := 7) (oi := { dst := some 25, op := Go.Op.move (Go.Operand.tmp 24), type := 4, pos := "ref.go:17", after := #[{ on := 6, ground := Go.Ground.data }, { on := 5, ground := Go.Ground.chain }], guard := none }) (v := .bool false) rfl (by kernel_rfl) (by kernel_rfl) (by kernel_rfl) (fun _ _ _ h => h) (Or.inl ⟨by kernel_rfl, ?_⟩) (⟨keepA (keepD c0), keepA (keepD c1)⟩) ?_
            · intro W hSw
              go_simp
            try simp only [Act.put, List.setIfInBounds_toArray, List.set_cons_zero, List.set_cons_succ]
            refine wpAnyH_take (i := 8) (oi := { dst := some 26, op := Go.Op.move (Go.Operand.tmp 5), type := 3, pos := "ref.go:17", after := #[{ on := 7, ground := Go.Ground.guard }], guard := some (7, false) }) (v := ?_) rfl (by kernel_rfl) (by kernel_rfl) (by kernel_rfl) (fun _ _ _ h => h) (Or.inl ⟨by kernel_rfl, ?_⟩) (⟨keepA (keepD c0), keepA (keepD c1)⟩) ?_
            rotate_left
            · intro W hSw
              go_simp
              all_goals with_reducible rfl
            try simp only [Act.put, List.setIfInBounds_toArray, List.set_cons_zero, List.set_cons_succ]
            refine wpAnyH_take (i := 9) (oi := { dst := some 27, op := Go.Op.binOp Go.BinOp.gtr 3 (Go.Operand.tmp 26) (Go.Operand.const (Go.Value.int Go.IntKind.i64 0)) 3, type := 4, pos := "ref.go:17", after := #[{ on := 8, ground := Go.Ground.data }, { on := 7, ground := Go.Ground.guard }], guard := some (7, false) }) (v := .bool false) rfl (by kernel_rfl) (by kernel_rfl) (by kernel_rfl) (fun _ _ _ h => h) (Or.inl ⟨by kernel_rfl, ?_⟩) (⟨keepA (keepD c0), keepA (keepD c1)⟩) ?_
            · intro W hSw
              go_simp
            try simp only [Act.put, List.setIfInBounds_toArray, List.set_cons_zero, List.set_cons_succ]
            refine wpAnyH_take (i := 10) (oi := { dst := some 28, op := Go.Op.move (Go.Operand.tmp 27), type := 4, pos := "ref.go:17", after := #[{ on := 9, ground := Go.Ground.data }, { on := 7, ground := Go.Ground.chain }, { on := 7, ground := Go.Ground.guard }], guard := some (7, false) }) (v := .bool false) rfl (by kernel_rfl) (by kernel_rfl) (by kernel_rfl) (fun _ _ _ h => h) (Or.inl ⟨by kernel_rfl, ?_⟩) (⟨keepA (keepD c0), keepA (keepD c1)⟩) ?_
            · intro W hSw
              go_simp
            try simp only [Act.put, List.setIfInBounds_toArray, List.set_cons_zero, List.set_cons_succ]
            refine wpAnyH_take (i := 11) (oi := { dst := some 29, op := Go.Op.move (Go.Operand.tmp 1), type := 22, pos := "ref.go:17", after := #[{ on := 10, ground := Go.Ground.guard }], guard := some (10, true) }) (v := undef) rfl (by kernel_rfl) (by kernel_rfl) (by kernel_rfl) (fun _ _ _ h => h) (Or.inr ⟨by kernel_rfl, rfl⟩) (⟨keepA (keepD c0), keepA (keepD c1)⟩) ?_
            try simp only [Act.put, List.setIfInBounds_toArray, List.set_cons_zero, List.set_cons_succ]
            refine wpAnyH_take (i := 12) (oi := { dst := some 30, op := Go.Op.move (Go.Operand.tmp 5), type := 3, pos := "ref.go:17", after := #[{ on := 10, ground := Go.Ground.guard }], guard := some (10, true) }) (v := undef) rfl (by kernel_rfl) (by kernel_rfl) (by kernel_rfl) (fun _ _ _ h => h) (Or.inr ⟨by kernel_rfl, rfl⟩) (⟨keepA (keepD c0), keepA (keepD c1)⟩) ?_
            try simp only [Act.put, List.setIfInBounds_toArray, List.set_cons_zero, List.set_cons_succ]
            refine wpAnyH_take (i := 13) (oi := { dst := some 31, op := Go.Op.indexAddr 22 (Go.Operand.tmp 29) (Go.Operand.tmp 30), type := 0, pos := "ref.go:17", after := #[{ on := 11, ground := Go.Ground.data }, { on := 12, ground := Go.Ground.data }, { on := 10, ground := Go.Ground.guard }], guard := some (10, true) }) (v := undef) rfl (by kernel_rfl) (by kernel_rfl) (by kernel_rfl) (fun _ _ _ h => h) (Or.inr ⟨by kernel_rfl, rfl⟩) (⟨keepA (keepD c0), keepA (keepD c1)⟩) ?_
            try simp only [Act.put, List.setIfInBounds_toArray, List.set_cons_zero, List.set_cons_succ]
            refine wpAnyH_take (i := 14) (oi := { dst := some 32, op := Go.Op.fieldAddr 25 (Go.Operand.tmp 31) 0, type := 0, pos := "ref.go:17", after := #[{ on := 13, ground := Go.Ground.data }, { on := 10, ground := Go.Ground.guard }], guard := some (10, true) }) (v := undef) rfl (by kernel_rfl) (by kernel_rfl) (by kernel_rfl) (fun _ _ _ h => h) (Or.inr ⟨by kernel_rfl, rfl⟩) (⟨keepA (keepD c0), keepA (keepD c1)⟩) ?_
            try simp only [Act.put, List.setIfInBounds_toArray, List.set_cons_zero, List.set_cons_succ]
            refine wpAnyH_take (i := 15) (oi := { dst := some 33, op := Go.Op.load 3 (Go.Operand.tmp 32), type := 3, pos := "ref.go:17", after := #[{ on := 14, ground := Go.Ground.data }, { on := 10, ground := Go.Ground.guard }], guard := some (10, true) }) (v := undef) rfl (by kernel_rfl) (by kernel_rfl) (by kernel_rfl) (fun _ _ _ h => h) (Or.inr ⟨by kernel_rfl, rfl⟩) (⟨keepA (keepD c0), keepA (keepD c1)⟩) ?_
            try simp only [Act.put, List.setIfInBounds_toArray, List.set_cons_zero, List.set_cons_succ]
            refine wpAnyH_take (i := 16) (oi := { dst := some 34, op := Go.Op.move (Go.Operand.tmp 1), type := 22, pos := "ref.go:17", after := #[{ on := 10, ground := Go.Ground.guard }], guard := some (10, true) }) (v := undef) rfl (by kernel_rfl) (by kernel_rfl) (by kernel_rfl) (fun _ _ _ h => h) (Or.inr ⟨by kernel_rfl, rfl⟩) (⟨keepA (keepD c0), keepA (keepD c1)⟩) ?_
            try simp only [Act.put, List.setIfInBounds_toArray, List.set_cons_zero, List.set_cons_succ]
            refine wpAnyH_take (i := 17) (oi := { dst := some 35, op := Go.Op.move (Go.Operand.tmp 5), type := 3, pos := "ref.go:17", after := #[{ on := 10, ground := Go.Ground.guard }], guard := some (10, true) }) (v := undef) rfl (by kernel_rfl) (by kernel_rfl) (by kernel_rfl) (fun _ _ _ h => h) (Or.inr ⟨by kernel_rfl, rfl⟩) (⟨keepA (keepD c0), keepA (keepD c1)⟩) ?_
            try simp only [Act.put, List.setIfInBounds_toArray, List.set_cons_zero, List.set_cons_succ]
            refine wpAnyH_take (i := 18) (oi := { dst := some 36, op := Go.Op.binOp Go.BinOp.sub 3 (Go.Operand.tmp 35) (Go.Operand.const (Go.Value.int Go.IntKind.i64 1)) 3, type := 3, pos := "ref.go:17", after := #[{ on := 17, ground := Go.Ground.data }, { on := 10, ground := Go.Ground.guard }], guard := some (10, true) }) (v := undef) rfl (by kernel_rfl) (by kernel_rfl) (by kernel_rfl) (fun _ _ _ h => h) (Or.inr ⟨by kernel_rfl, rfl⟩) (⟨keepA (keepD c0), keepA (keepD c1)⟩) ?_
            try simp only [Act.put, List.setIfInBounds_toArray, List.set_cons_zero, List.set_cons_succ]
            refine wpAnyH_take (i := 19) (oi := { dst := some 37, op := Go.Op.indexAddr 22 (Go.Operand.tmp 34) (Go.Operand.tmp 36), type := 0, pos := "ref.go:17", after := #[{ on := 16, ground := Go.Ground.data }, { on := 18, ground := Go.Ground.data }, { on := 10, ground := Go.Ground.guard }], guard := some (10, true) }) (v := undef) rfl (by kernel_rfl) (by kernel_rfl) (by kernel_rfl) (fun _ _ _ h => h) (Or.inr ⟨by kernel_rfl, rfl⟩) (⟨keepA (keepD c0), keepA (keepD c1)⟩) ?_
            try simp only [Act.put, List.setIfInBounds_toArray, List.set_cons_zero, List.set_cons_succ]
            refine wpAnyH_take (i := 20) (oi := { dst := some 38, op := Go.Op.fieldAddr 25 (Go.Operand.tmp 37) 0, type := 0, pos := "ref.go:17", after := #[{ on := 19, ground := Go.Ground.data }, { on := 10, ground := Go.Ground.guard }], guard := some (10, true) }) (v := undef) rfl (by kernel_rfl) (by kernel_rfl) (by kernel_rfl) (fun _ _ _ h => h) (Or.inr ⟨by kernel_rfl, rfl⟩) (⟨keepA (keepD c0), keepA (keepD c1)⟩) ?_
            try simp only [Act.put, List.setIfInBounds_toArray, List.set_cons_zero, List.set_cons_succ]
            refine wpAnyH_take (i := 21) (oi := { dst := some 39, op := Go.Op.load 3 (Go.Operand.tmp 38), type := 3, pos := "ref.go:17", after := #[{ on := 20, ground := Go.Ground.data }, { on := 10, ground := Go.Ground.guard }], guard := some (10, true) }) (v := undef) rfl (by kernel_rfl) (by kernel_rfl) (by kernel_rfl) (fun _ _ _ h => h) (Or.inr ⟨by kernel_rfl, rfl⟩) (⟨keepA (keepD c0), keepA (keepD c1)⟩) ?_
            try simp only [Act.put, List.setIfInBounds_toArray, List.set_cons_zero, List.set_cons_succ]
            refine wpAnyH_take (i := 22) (oi := { dst := some 40, op := Go.Op.move (Go.Operand.tmp 1), type := 22, pos := "ref.go:17", after := #[{ on := 10, ground := Go.Ground.guard }], guard := some (10, true) }) (v := undef) rfl (by kernel_rfl) (by kernel_rfl) (by kernel_rfl) (fun _ _ _ h => h) (Or.inr ⟨by kernel_rfl, rfl⟩) (⟨keepA (keepD c0), keepA (keepD c1)⟩) ?_
            try simp only [Act.put, List.setIfInBounds_toArray, List.set_cons_zero, List.set_cons_succ]
            refine wpAnyH_take (i := 23) (oi := { dst := some 41, op := Go.Op.move (Go.Operand.tmp 5), type := 3, pos := "ref.go:17", after := #[{ on := 10, ground := Go.Ground.guard }], guard := some (10, true) }) (v := undef) rfl (by kernel_rfl) (by kernel_rfl) (by kernel_rfl) (fun _ _ _ h => h) (Or.inr ⟨by kernel_rfl, rfl⟩) (⟨keepA (keepD c0), keepA (keepD c1)⟩) ?_
            try simp only [Act.put, List.setIfInBounds_toArray, List.set_cons_zero, List.set_cons_succ]
            refine wpAnyH_take (i := 24) (oi := { dst := some 42, op := Go.Op.binOp Go.BinOp.sub 3 (Go.Operand.tmp 41) (Go.Operand.const (Go.Value.int Go.IntKind.i64 1)) 3, type := 3, pos := "ref.go:17", after := #[{ on := 23, ground := Go.Ground.data }, { on := 10, ground := Go.Ground.guard }], guard := some (10, true) }) (v := undef) rfl (by kernel_rfl) (by kernel_rfl) (by kernel_rfl) (fun _ _ _ h => h) (Or.inr ⟨by kernel_rfl, rfl⟩) (⟨keepA (keepD c0), keepA (keepD c1)⟩) ?_
            try simp only [Act.put, List.setIfInBounds_toArray, List.set_cons_zero, List.set_cons_succ]
            refine wpAnyH_take (i := 25) (oi := { dst := some 43, op := Go.Op.indexAddr 22 (Go.Operand.tmp 40) (Go.Operand.tmp 42), type := 0, pos := "ref.go:17", after := #[{ on := 22, ground := Go.Ground.data }, { on := 24, ground := Go.Ground.data }, { on := 10, ground := Go.Ground.guard }], guard := some (10, true) }) (v := undef) rfl (by kernel_rfl) (by kernel_rfl) (by kernel_rfl) (fun _ _ _ h => h) (Or.inr ⟨by kernel_rfl, rfl⟩) (⟨keepA (keepD c0), keepA (keepD c1)⟩) ?_
            try simp only [Act.put, List.setIfInBounds_toArray, List.set_cons_zero, List.set_cons_succ]
            refine wpAnyH_take (i := 26) (oi := { dst := some 44, op := Go.Op.fieldAddr 25 (Go.Operand.tmp 43) 1, type := 0, pos := "ref.go:17", after := #[{ on := 25, ground := Go.Ground.data }, { on := 10, ground := Go.Ground.guard }], guard := some (10, true) }) (v := undef) rfl (by kernel_rfl) (by kernel_rfl) (by kernel_rfl) (fun _ _ _ h => h) (Or.inr ⟨by kernel_rfl, rfl⟩) (⟨keepA (keepD c0), keepA (keepD c1)⟩) ?_
            try simp only [Act.put, List.setIfInBounds_toArray, List.set_cons_zero, List.set_cons_succ]
            refine wpAnyH_take (i := 27) (oi := { dst := some 45, op := Go.Op.load 3 (Go.Operand.tmp 44), type := 3, pos := "ref.go:17", after := #[{ on := 26, ground := Go.Ground.data }, { on := 10, ground := Go.Ground.guard }], guard := some (10, true) }) (v := undef) rfl (by kernel_rfl) (by kernel_rfl) (by kernel_rfl) (fun _ _ _ h => h) (Or.inr ⟨by kernel_rfl, rfl⟩) (⟨keepA (keepD c0), keepA (keepD c1)⟩) ?_
            try simp only [Act.put, List.setIfInBounds_toArray, List.set_cons_zero, List.set_cons_succ]
            refine wpAnyH_take (i := 28) (oi := { dst := some 46, op := Go.Op.binOp Go.BinOp.add 3 (Go.Operand.tmp 39) (Go.Operand.tmp 45) 3, type := 3, pos := "ref.go:17", after := #[{ on := 21, ground := Go.Ground.data }, { on := 27, ground := Go.Ground.data }, { on := 10, ground := Go.Ground.guard }], guard := some (10, true) }) (v := undef) rfl (by kernel_rfl) (by kernel_rfl) (by kernel_rfl) (fun _ _ _ h => h) (Or.inr ⟨by kernel_rfl, rfl⟩) (⟨keepA (keepD c0), keepA (keepD c1)⟩) ?_
            try simp only [Act.put, List.setIfInBounds_toArray, List.set_cons_zero, List.set_cons_succ]
            refine wpAnyH_take (i := 29) (oi := { dst := some 47, op := Go.Op.binOp Go.BinOp.leq 3 (Go.Operand.tmp 33) (Go.Operand.tmp 46) 3, type := 4, pos := "ref.go:17", after := #[{ on := 15, ground := Go.Ground.data }, { on := 28, ground := Go.Ground.data }, { on := 10, ground := Go.Ground.guard }], guard := some (10, true) }) (v := undef) rfl (by kernel_rfl) (by kernel_rfl) (by kernel_rfl) (fun _ _ _ h => h) (Or.inr ⟨by kernel_rfl, rfl⟩) (⟨keepA (keepD c0), keepA (keepD c1)⟩) ?_
            try simp only [Act.put, List.setIfInBounds_toArray, List.set_cons_zero, List.set_cons_succ]
            refine wpAnyH_take (i := 30) (oi := { dst := some 48, op := Go.Op.pick (Go.Operand.tmp 28) (Go.Operand.tmp 47) (Go.Operand.const (Go.Value.bool false)), type := 4, pos := "ref.go:17", after := #[{ on := 10, ground := Go.Ground.data }, { on := 29, ground := Go.Ground.data }, { on := 7, ground := Go.Ground.guard }], guard := some (7, false) }) (v := .bool false) rfl (by kernel_rfl) (by kernel_rfl) (by kernel_rfl) (fun _ _ _ h => h) (Or.inl ⟨by kernel_rfl, ?_⟩) (⟨keepA (keepD c0), keepA (keepD c1)⟩) ?_
            · intro W hSw
              go_simp
            try simp only [Act.put, List.setIfInBounds_toArray, List.set_cons_zero, List.set_cons_succ]
            refine wpAnyH_take (i := 31) (oi := { dst := some 49, op := Go.Op.pick (Go.Operand.tmp 25) (Go.Operand.const (Go.Value.bool true)) (Go.Operand.tmp 48), type := 4, pos := "ref.go:17", after := #[{ on := 7, ground := Go.Ground.data }, { on := 30, ground := Go.Ground.data }], guard := none }) (v := .bool false) rfl (by kernel_rfl) (by kernel_rfl) (by kernel_rfl) (fun _ _ _ h => h) (Or.inl ⟨by kernel_rfl, ?_⟩) (⟨keepA (keepD c0), keepA (keepD c1)⟩) ?_
            · intro W hSw
              go_simp
            try simp only [Act.put, List.setIfInBounds_toArray, List.set_cons_zero, List.set_cons_succ]
            refine wpAnyH_done (by kernel_rfl) ?_ _
            refine NoPanic.normal ?_
            go_wp2
            go_roundw
            case rel => exact ⟨k + 1, by omega, by go_num, Hnext.out hlies (by rw [HE0.out]; have := hlies.1; show (-1 : Int) < a; omega), by
              repeat first | exact hbel | refine Below.drew ?_ | refine Below.alloc ?_ (by first | exact hsr | (simp; omega)) _⟩
            case measure => simp [intOf]; omega
          · obtain ⟨j, rfl⟩ : ∃ j, k = j + 1 := ⟨k - 1, by omega⟩
            simp only [Nat.add_sub_cancel] at Hprev hend hpok
            obtain ⟨ad', e, d0, d1, j1, j2⟩ := Hprev hk0
            cases e
            have hend := hend hk0
            have hpk := (hpok hk0).1
            obtain ⟨⟨c, m⟩, ht'⟩ : ∃ t, l[j] = t := ⟨_, rfl⟩
            rw [ht'] at d0 d1 hend hpk
            simp only at d0 d1 hend
            unfold liesE at hpk
            simp only at hpk
            obtain ⟨p1, p2, p3⟩ := hpk
            have HE := Lib.hid hend
            have ka : IntKind.i64.wrap ((j : Int) + 1 - 1) = (j : Int) := (IntWalk.i64_in _ ⟨by omega, by omega⟩).trans (by omega)
            have kb : IntKind.i64.wrap (j : Int) = (j : Int) := IntWalk.i64_in _ (by omega)
            have kl4 : 0 ≤ (j : Int) + 1 := by omega
            have kl : (j : Int) < l.length := by omega
            have kl2 : (j : Int) + 1 < l.length := by omega
            have kl3 : ((j : Int) + 1).toNat = j + 1 := by omega
            have k0' : decide (0 < (j : Int) + 1) = true := decide_eq_true (by omega)
            have sm : IntKind.i64.wrap (c + m) = c + m := IntWalk.i64_in _ (by omega)
            clear Hprev hpok hok ht ht' hend
            by_cases hlast : a ≤ c + m
            · have q : decide (a ≤ c + m) = true := by simp; omega
              go_wp2
              refine wp_region_noPanic ?_
              refine wp_region_held_drew (S := fun W => W.cell? (ad.add ((j + 1) * 2)) = some (.int .i64 a) ∧ W.cell? ⟨(ad.add ((j + 1) * 2)).block, (ad.add ((j + 1) * 2)).off + 1, none⟩ = some (.int .i64 n) ∧ W.cell? (ad.add (j * 2)) = some (.int .i64 c) ∧ W.cell? ⟨(ad.add (j * 2)).block, (ad.add (j * 2)).off + 1, none⟩ = some (.int .i64 m)) (by kernel_rfl) ⟨c0, c1, d0, d1⟩ (fun _ => ?_)
              refine wpAnyH_take (i := 0) (oi := { dst := some 18, op := Go.Op.move (Go.Operand.tmp 0), type := 3, pos := "ref.go:17", after := #[], guard := none }) (v := ?_) rfl (by kernel_rfl) (by kernel_rfl) (by kernel_rfl) (fun _ _ _ h => h) (Or.inl ⟨by kernel_rfl, ?_⟩) (⟨c0, c1, d0, d1⟩) ?_
              rotate_left
              · intro W hSw
                obtain ⟨s0, s1, s2, s3⟩ := hSw
                go_simp
                all_goals with_reducible rfl
              try simp only [Act.put, List.setIfInBounds_toArray, List.set_cons_zero, List.set_cons_succ]
              refine wpAnyH_take (i := 1) (oi := { dst := some 19, op := Go.Op.move (Go.Operand.tmp 1), type := 22, pos := "ref.go:17", after := #[], guard := none }) (v := ?_) rfl (by kernel_rfl) (by kernel_rfl) (by kernel_rfl) (fun _ _ _ h => h) (Or.inl ⟨by kernel_rfl, ?_⟩) (⟨c0, c1, d0, d1⟩) ?_
              rotate_left
              · intro W hSw
                obtain ⟨s0, s1, s2, s3⟩ := hSw
                go_simp
                all_goals with_reducible rfl
              try simp only [Act.put, List.setIfInBounds_toArray, List.set_cons_zero, List.set_cons_succ]
              refine wpAnyH_take (i := 2) (oi := { dst := some 20, op := Go.Op.move (Go.Operand.tmp 5), type := 3, pos := "ref.go:17", after := #[], guard := none }) (v := ?_) rfl (by kernel_rfl) (by kernel_rfl) (by kernel_rfl) (fun _ _ _ h => h) (Or.inl ⟨by kernel_rfl, ?_⟩) (⟨c0, c1, d0, d1⟩) ?_
              rotate_left
              · intro W hSw
                obtain ⟨s0, s1, s2, s3⟩ := hSw
                go_simp
                all_goals with_reducible rfl
              try simp only [Act.put, List.setIfInBounds_toArray, List.set_cons_zero, List.set_cons_succ]
              refine wpAnyH_take (i := 3) (oi := { dst := some 21, op := Go.Op.indexAddr 22 (Go.Operand.tmp 19) (Go.Operand.tmp 20), type := 0, pos := "ref.go:17", after := #[{ on := 1, ground := Go.Ground.data }, { on := 2, ground := Go.Ground.data }], guard := none }) (v := ?_) rfl (by kernel_rfl) (by kernel_rfl) (by kernel_rfl) (fun _ _ _ h => h) (Or.inl ⟨by kernel_rfl, ?_⟩) (⟨c0, c1, d0, d1⟩) ?_
              rotate_left
              · intro W hSw
                obtain ⟨s0, s1, s2, s3⟩ := hSw
                go_simp
                all_goals with_reducible rfl
              try simp only [Act.put, List.setIfInBounds_toArray, List.set_cons_zero, List.set_cons_succ]
              refine wpAnyH_take (i := 4) (oi := { dst := some 22, op := Go.Op.load 25 (Go.Operand.tmp 21), type := 25, pos := "ref.go:17", after := #[{ on := 3, ground := Go.Ground.data }], guard := none }) (v := ?_) rfl (by kernel_rfl) (by kernel_rfl) (by kernel_rfl) (fun _ _ _ h => h) (Or.inl ⟨by kernel_rfl, ?_⟩) (⟨c0, c1, d0, d1⟩) ?_
              rotate_left
              · intro W hSw
                obtain ⟨s0, s1, s2, s3⟩ := hSw
                go_simp
                all_goals with_reducible rfl
              try simp only [Act.put, List.setIfInBounds_toArray, List.set_cons_zero, List.set_cons_succ]
              refine wpAnyH_ready (rs := [5]) (by kernel_rfl) (by simp) ?_
              refine AllReadyH.cons rfl (fun K hK => ?_) AllReadyH.nil
              go_simp
              refine (LI.out _).mono ?_
              rintro e w' ⟨rfl, rfl⟩
              go_wp2_with fail
              refine hK.out _ _ (⟨keepA (keepD c0), keepA (keepD c1), keepA (keepD d0), keepA (keepD d1)⟩) (fun _ => ?_)
              clear hK K
              try simp only [Act.put, List.setIfInBounds_toArray, List.set_cons_zero, List.set_cons_succ]
              refine wpAnyH_take (i := 6) (oi := { dst := some 24, op := Go.Op.unOp Go.UnOp.not 4 (Go.Operand.tmp 23), type := 4, pos := "ref.go:17", after := #[{ on := 5, ground := Go.Ground.data }], guard := none }) (v := .bool false) rfl (by kernel_rfl) (by kernel_rfl) (by kernel_rfl) (fun _ _ _ h => h) (Or.inl ⟨by kernel_rfl, ?_⟩) (⟨keepA (keepD c0), keepA (keepD c1), keepA (keepD d0), keepA (keepD d1)⟩) ?_
              · intro W hSw
                go_simp
              try simp only [Act.put, List.setIfInBounds_toArray, List.set_cons_zero, List.set_cons_succ]
              refine wpAnyH_take (i := 7) (oi := { dst := some 25, op := Go.Op.move (Go.Operand.tmp 24), type := 4, pos := "ref.go:17", after := #[{ on := 6, ground := Go.Ground.data }, { on := 5, ground := Go.Ground.chain }], guard := none }) (v := .bool false) rfl (by kernel_rfl) (by kernel_rfl) (by kernel_rfl) (fun _ _ _ h => h) (Or.inl ⟨by kernel_rfl, ?_⟩) (⟨keepA (keepD c0), keepA (keepD c1), keepA (keepD d0), keepA (keepD d1)⟩) ?_
              · intro W hSw
                go_simp
              try simp only [Act.put, List.setIfInBounds_toArray, List.set_cons_zero, List.set_cons_succ]
              refine wpAnyH_take (i := 8) (oi := { dst := some 26, op := Go.Op.move (Go.Operand.tmp 5), type := 3, pos := "ref.go:17", after := #[{ on := 7, ground := Go.Ground.guard }], guard := some (7, false) }) (v := ?_) rfl (by kernel_rfl) (by kernel_rfl) (by kernel_rfl) (fun _ _ _ h => h) (Or.inl ⟨by kernel_rfl, ?_⟩) (⟨keepA (keepD c0), keepA (keepD c1), keepA (keepD d0), keepA (keepD d1)⟩) ?_
              rotate_left
              · intro W hSw
                go_simp
                all_goals with_reducible rfl
              try simp only [Act.put, List.setIfInBounds_toArray, List.set_cons_zero, List.set_cons_succ]
              refine wpAnyH_take (i := 9) (oi := { dst := some 27, op := Go.Op.binOp Go.BinOp.gtr 3 (Go.Operand.tmp 26) (Go.Operand.const (Go.Value.int Go.IntKind.i64 0)) 3, type := 4, pos := "ref.go:17", after := #[{ on := 8, ground := Go.Ground.data }, { on := 7, ground := Go.Ground.guard }], guard := some (7, false) }) (v := .bool true) rfl (by kernel_rfl) (by kernel_rfl) (by kernel_rfl) (fun _ _ _ h => h) (Or.inl ⟨by kernel_rfl, ?_⟩) (⟨keepA (keepD c0), keepA (keepD c1), keepA (keepD d0), keepA (keepD d1)⟩) ?_
              · intro W hSw
                go_simp
              try simp only [Act.put, List.setIfInBounds_toArray, List.set_cons_zero, List.set_cons_succ]
              refine wpAnyH_take (i := 10) (oi := { dst := some 28, op := Go.Op.move (Go.Operand.tmp 27), type := 4, pos := "ref.go:17", after := #[{ on := 9, ground := Go.Ground.data }, { on := 7, ground := Go.Ground.chain }, { on := 7, ground := Go.Ground.guard }], guard := some (7, false) }) (v := .bool true) rfl (by kernel_rfl) (by kernel_rfl) (by kernel_rfl) (fun _ _ _ h => h) (Or.inl ⟨by kernel_rfl, ?_⟩) (⟨keepA (keepD c0), keepA (keepD c1), keepA (keepD d0), keepA (keepD d1)⟩) ?_
              · intro W hSw
                go_simp
              try simp only [Act.put, List.setIfInBounds_toArray, List.set_cons_zero, List.set_cons_succ]
              refine wpAnyH_take (i := 11) (oi := { dst := some 29, op := Go.Op.move (Go.Operand.tmp 1), type := 22, pos := "ref.go:17", after := #[{ on := 10, ground := Go.Ground.guard }], guard := some (10, true) }) (v := ?_) rfl (by kernel_rfl) (by kernel_rfl) (by kernel_rfl) (fun _ _ _ h => h) (Or.inl ⟨by kernel_rfl, ?_⟩) (⟨keepA (keepD c0), keepA (keepD c1), keepA (keepD d0), keepA (keepD d1)⟩) ?_
              rotate_left
              · intro W hSw
                obtain ⟨s0, s1, s2, s3⟩ := hSw
                go_simp
                all_goals with_reducible rfl
              try simp only [Act.put, List.setIfInBounds_toArray, List.set_cons_zero, List.set_cons_succ]
              refine wpAnyH_take (i := 12) (oi := { dst := some 30, op := Go.Op.move (Go.Operand.tmp 5), type := 3, pos := "ref.go:17", after := #[{ on := 10, ground := Go.Ground.guard }], guard := some (10, true) }) (v := ?_) rfl (by kernel_rfl) (by kernel_rfl) (by kernel_rfl) (fun _ _ _ h => h) (Or.inl ⟨by kernel_rfl, ?_⟩) (⟨keepA (keepD c0), keepA (keepD c1), keepA (keepD d0), keepA (keepD d1)⟩) ?_
              rotate_left
              · intro W hSw
                obtain ⟨s0, s1, s2, s3⟩ := hSw
                go_simp
                all_goals with_reducible rfl
              try simp only [Act.put, List.setIfInBounds_toArray, List.set_cons_zero, List.set_cons_succ]
              refine wpAnyH_take (i := 13) (oi := { dst := some 31, op := Go.Op.indexAddr 22 (Go.Operand.tmp 29) (Go.Operand.tmp 30), type := 0, pos := "ref.go:17", after := #[{ on := 11, ground := Go.Ground.data }, { on := 12, ground := Go.Ground.data }, { on := 10, ground := Go.Ground.guard }], guard := some (10, true) }) (v := ?_) rfl (by kernel_rfl) (by kernel_rfl) (by kernel_rfl) (fun _ _ _ h => h) (Or.inl ⟨by kernel_rfl, ?_⟩) (⟨keepA (keepD c0), keepA (keepD c1), keepA (keepD d0), keepA (keepD d1)⟩) ?_
              rotate_left
              · intro W hSw
                obtain ⟨s0, s1, s2, s3⟩ := hSw
                go_simp
                all_goals with_reducible rfl
              try simp only [Act.put, List.setIfInBounds_toArray, List.set_cons_zero, List.set_cons_succ]
              refine wpAnyH_take (i := 14) (oi := { dst := some 32, op := Go.Op.fieldAddr 25 (Go.Operand.tmp 31) 0, type := 0, pos := "ref.go:17", after := #[{ on := 13, ground := Go.Ground.data }, { on := 10, ground := Go.Ground.guard }], guard := some (10, true) }) (v := ?_) rfl (by kernel_rfl) (by kernel_rfl) (by kernel_rfl) (fun _ _ _ h => h) (Or.inl ⟨by kernel_rfl, ?_⟩) (⟨keepA (keepD c0), keepA (keepD c1), keepA (keepD d0), keepA (keepD d1)⟩) ?_
              rotate_left
              · intro W hSw
                obtain ⟨s0, s1, s2, s3⟩ := hSw
                go_simp
                all_goals with_reducible rfl
              try simp only [Act.put, List.setIfInBounds_toArray, List.set_cons_zero, List.set_cons_succ]
              refine wpAnyH_take (i := 15) (oi := { dst := some 33, op := Go.Op.load 3 (Go.Operand.tmp 32), type := 3, pos := "ref.go:17", after := #[{ on := 14, ground := Go.Ground.data }, { on := 10, ground := Go.Ground.guard }], guard := some (10, true) }) (v := ?_) rfl (by kernel_rfl) (by kernel_rfl) (by kernel_rfl) (fun _ _ _ h => h) (Or.inl ⟨by kernel_rfl, ?_⟩) (⟨keepA (keepD c0), keepA (keepD c1), keepA (keepD d0), keepA (keepD d1)⟩) ?_
              rotate_left
              · intro W hSw
                obtain ⟨s0, s1, s2, s3⟩ := hSw
                go_simp
                all_goals with_reducible rfl
              try simp only [Act.put, List.setIfInBounds_toArray, List.set_cons_zero, List.set_cons_succ]
              refine wpAnyH_take (i := 16) (oi := { dst := some 34, op := Go.Op.move (Go.Operand.tmp 1), type := 22, pos := "ref.go:17", after := #[{ on := 10, ground := Go.Ground.guard }], guard := some (10, true) }) (v := ?_) rfl (by kernel_rfl) (by kernel_rfl) (by kernel_rfl) (fun _ _ _ h => h) (Or.inl ⟨by kernel_rfl, ?_⟩) (⟨keepA (keepD c0), keepA (keepD c1), keepA (keepD d0), keepA (keepD d1)⟩) ?_
              rotate_left
              · intro W hSw
                obtain ⟨s0, s1, s2, s3⟩ := hSw
                go_simp
                all_goals with_reducible rfl
              try simp only [Act.put, List.setIfInBounds_toArray, List.set_cons_zero, List.set_cons_succ]
              refine wpAnyH_take (i := 17) (oi := { dst := some 35, op := Go.Op.move (Go.Operand.tmp 5), type := 3, pos := "ref.go:17", after := #[{ on := 10, ground := Go.Ground.guard }], guard := some (10, true) }) (v := ?_) rfl (by kernel_rfl) (by kernel_rfl) (by kernel_rfl) (fun _ _ _ h => h) (Or.inl ⟨by kernel_rfl, ?_⟩) (⟨keepA (keepD c0), keepA (keepD c1), keepA (keepD d0), keepA (keepD d1)⟩) ?_
              rotate_left
              · intro W hSw
                obtain ⟨s0, s1, s2, s3⟩ := hSw
                go_simp
                all_goals with_reducible rfl
              try simp only [Act.put, List.setIfInBounds_toArray, List.set_cons_zero, List.set_cons_succ]
              refine wpAnyH_take (i := 18) (oi := { dst := some 36, op := Go.Op.binOp Go.BinOp.sub 3 (Go.Operand.tmp 35) (Go.Operand.const (Go.Value.int Go.IntKind.i64 1)) 3, type := 3, pos := "ref.go:17", after := #[{ on := 17, ground := Go.Ground.data }, { on := 10, ground := Go.Ground.guard }], guard := some (10, true) }) (v := ?_) rfl (by kernel_rfl) (by kernel_rfl) (by kernel_rfl) (fun _ _ _ h => h) (Or.inl ⟨by kernel_rfl, ?_⟩) (⟨keepA (keepD c0), keepA (keepD c1), keepA (keepD d0), keepA (keepD d1)⟩) ?_
              rotate_left
              · intro W hSw
                obtain ⟨s0, s1, s2, s3⟩ := hSw
                go_simp
                all_goals with_reducible rfl
              try simp only [Act.put, List.setIfInBounds_toArray, List.set_cons_zero, List.set_cons_succ]
              refine wpAnyH_take (i := 19) (oi := { dst := some 37, op := Go.Op.indexAddr 22 (Go.Operand.tmp 34) (Go.Operand.tmp 36), type := 0, pos := "ref.go:17", after := #[{ on := 16, ground := Go.Ground.data }, { on := 18, ground := Go.Ground.data }, { on := 10, ground := Go.Ground.guard }], guard := some (10, true) }) (v := ?_) rfl (by kernel_rfl) (by kernel_rfl) (by kernel_rfl) (fun _ _ _ h => h) (Or.inl ⟨by kernel_rfl, ?_⟩) (⟨keepA (keepD c0), keepA (keepD c1), keepA (keepD d0), keepA (keepD d1)⟩) ?_
              rotate_left
              · intro W hSw
                obtain ⟨s0, s1, s2, s3⟩ := hSw
                go_simp
                all_goals with_reducible rfl
              try simp only [Act.put, List.setIfInBounds_toArray, List.set_cons_zero, List.set_cons_succ]
              refine wpAnyH_take (i := 20) (oi := { dst := some 38, op := Go.Op.fieldAddr 25 (Go.Operand.tmp 37) 0, type := 0, pos := "ref.go:17", after := #[{ on := 19, ground := Go.Ground.data }, { on := 10, ground := Go.Ground.guard }], guard := some (10, true) }) (v := ?_) rfl (by kernel_rfl) (by kernel_rfl) (by kernel_rfl) (fun _ _ _ h => h) (Or.inl ⟨by kernel_rfl, ?_⟩) (⟨keepA (keepD c0), keepA (keepD c1), keepA (keepD d0), keepA (keepD d1)⟩) ?_
              rotate_left
              · intro W hSw
                obtain ⟨s0, s1, s2, s3⟩ := hSw
                go_simp
                all_goals with_reducible rfl
              try simp only [Act.put, List.setIfInBounds_toArray, List.set_cons_zero, List.set_cons_succ]
              refine wpAnyH_take (i := 21) (oi := { dst := some 39, op := Go.Op.load 3 (Go.Operand.tmp 38), type := 3, pos := "ref.go:17", after := #[{ on := 20, ground := Go.Ground.data }, { on := 10, ground := Go.Ground.guard }], guard := some (10, true) }) (v := ?_) rfl (by kernel_rfl) (by kernel_rfl) (by kernel_rfl) (fun _ _ _ h => h) (Or.inl ⟨by kernel_rfl, ?_⟩) (⟨keepA (keepD c0), keepA (keepD c1), keepA (keepD d0), keepA (keepD d1)⟩) ?_
              rotate_left
              · intro W hSw
                obtain ⟨s0, s1, s2, s3⟩ := hSw
                go_simp
                all_goals with_reducible rfl
              try simp only [Act.put, List.setIfInBounds_toArray, List.set_cons_zero, List.set_cons_succ]
              refine wpAnyH_take (i := 22) (oi := { dst := some 40, op := Go.Op.move (Go.Operand.tmp 1), type := 22, pos := "ref.go:17", after := #[{ on := 10, ground := Go.Ground.guard }], guard := some (10, true) }) (v := ?_) rfl (by kernel_rfl) (by kernel_rfl) (by kernel_rfl) (fun _ _ _ h => h) (Or.inl ⟨by kernel_rfl, ?_⟩) (⟨keepA (keepD c0), keepA (keepD c1), keepA (keepD d0), keepA (keepD d1)⟩) ?_
              rotate_left
              · intro W hSw
                obtain ⟨s0, s1, s2, s3⟩ := hSw
                go_simp
                all_goals with_reducible rfl
              try simp only [Act.put, List.setIfInBounds_toArray, List.set_cons_zero, List.set_cons_succ]
              refine wpAnyH_take (i := 23) (oi := { dst := some 41, op := Go.Op.move (Go.Operand.tmp 5), type := 3, pos := "ref.go:17", after := #[{ on := 10, ground := Go.Ground.guard }], guard := some (10, true) }) (v := ?_) rfl (by kernel_rfl) (by kernel_rfl) (by kernel_rfl) (fun _ _ _ h => h) (Or.inl ⟨by kernel_rfl, ?_⟩) (⟨keepA (keepD c0), keepA (keepD c1), keepA (keepD d0), keepA (keepD d1)⟩) ?_
              rotate_left
              · intro W hSw
                obtain ⟨s0, s1, s2, s3⟩ := hSw
                go_simp
                all_goals with_reducible rfl
              try simp only [Act.put, List.setIfInBounds_toArray, List.set_cons_zero, List.set_cons_succ]
              refine wpAnyH_take (i := 24) (oi := { dst := some 42, op := Go.Op.binOp Go.BinOp.sub 3 (Go.Operand.tmp 41) (Go.Operand.const (Go.Value.int Go.IntKind.i64 1)) 3, type := 3, pos := "ref.go:17", after := #[{ on := 23, ground := Go.Ground.data }, { on := 10, ground := Go.Ground.guard }], guard := some (10, true) }) (v := ?_) rfl (by kernel_rfl) (by kernel_rfl) (by kernel_rfl) (fun _ _ _ h => h) (Or.inl ⟨by kernel_rfl, ?_⟩) (⟨keepA (keepD c0), keepA (keepD c1), keepA (keepD d0), keepA (keepD d1)⟩) ?_
              rotate_left
              · intro W hSw
                obtain ⟨s0, s1, s2, s3⟩ := hSw
                go_simp
                all_goals with_reducible rfl
              try simp only [Act.put, List.setIfInBounds_toArray, List.set_cons_zero, List.set_cons_succ]
              refine wpAnyH_take (i := 25) (oi := { dst := some 43, op := Go.Op.indexAddr 22 (Go.Operand.tmp 40) (Go.Operand.tmp 42), type := 0, pos := "ref.go:17", after := #[{ on := 22, ground := Go.Ground.data }, { on := 24, ground := Go.Ground.data }, { on := 10, ground := Go.Ground.guard }], guard := some (10, true) }) (v := ?_) rfl (by kernel_rfl) (by kernel_rfl) (by kernel_rfl) (fun _ _ _ h => h) (Or.inl ⟨by kernel_rfl, ?_⟩) (⟨keepA (keepD c0), keepA (keepD c1), keepA (keepD d0), keepA (keepD d1)⟩) ?_
              rotate_left
              · intro W hSw
                obtain ⟨s0, s1, s2, s3⟩ := hSw
                go_simp
                all_goals with_reducible rfl
              try simp only [Act.put, List.setIfInBounds_toArray, List.set_cons_zero, List.set_cons_succ]
              refine wpAnyH_take (i := 26) (oi := { dst := some 44, op := Go.Op.fieldAddr 25 (Go.Operand.tmp 43) 1, type := 0, pos := "ref.go:17", after := #[{ on := 25, ground := Go.Ground.data }, { on := 10, ground := Go.Ground.guard }], guard := some (10, true) }) (v := ?_) rfl (by kernel_rfl) (by kernel_rfl) (by kernel_rfl) (fun _ _ _ h => h) (Or.inl ⟨by kernel_rfl, ?_⟩) (⟨keepA (keepD c0), keepA (keepD c1), keepA (keepD d0), keepA (keepD d1)⟩) ?_
              rotate_left
              · intro W hSw
                obtain ⟨s0, s1, s2, s3⟩ := hSw
                go_simp
                all_goals with_reducible rfl
              try simp only [Act.put, List.setIfInBounds_toArray, List.set_cons_zero, List.set_cons_succ]
              refine wpAnyH_take (i := 27) (oi := { dst := some 45, op := Go.Op.load 3 (Go.Operand.tmp 44), type := 3, pos := "ref.go:17", after := #[{ on := 26, ground := Go.Ground.data }, { on := 10, ground := Go.Ground.guard }], guard := some (10, true) }) (v := ?_) rfl (by kernel_rfl) (by kernel_rfl) (by kernel_rfl) (fun _ _ _ h => h) (Or.inl ⟨by kernel_rfl, ?_⟩) (⟨keepA (keepD c0), keepA (keepD c1), keepA (keepD d0), keepA (keepD d1)⟩) ?_
              rotate_left
              · intro W hSw
                obtain ⟨s0, s1, s2, s3⟩ := hSw
                go_simp
                all_goals with_reducible rfl
              try simp only [Act.put, List.setIfInBounds_toArray, List.set_cons_zero, List.set_cons_succ]
              refine wpAnyH_take (i := 28) (oi := { dst := some 46, op := Go.Op.binOp Go.BinOp.add 3 (Go.Operand.tmp 39) (Go.Operand.tmp 45) 3, type := 3, pos := "ref.go:17", after := #[{ on := 21, ground := Go.Ground.data }, { on := 27, ground := Go.Ground.data }, { on := 10, ground := Go.Ground.guard }], guard := some (10, true) }) (v := ?_) rfl (by kernel_rfl) (by kernel_rfl) (by kernel_rfl) (fun _ _ _ h => h) (Or.inl ⟨by kernel_rfl, ?_⟩) (⟨keepA (keepD c0), keepA (keepD c1), keepA (keepD d0), keepA (keepD d1)⟩) ?_
              rotate_left
              · intro W hSw
                obtain ⟨s0, s1, s2, s3⟩ := hSw
                go_simp
                all_goals with_reducible rfl
              try simp only [Act.put, List.setIfInBounds_toArray, List.set_cons_zero, List.set_cons_succ]
              refine wpAnyH_take (i := 29) (oi := { dst := some 47, op := Go.Op.binOp Go.BinOp.leq 3 (Go.Operand.tmp 33) (Go.Operand.tmp 46) 3, type := 4, pos := "ref.go:17", after := #[{ on := 15, ground := Go.Ground.data }, { on := 28, ground := Go.Ground.data }, { on := 10, ground := Go.Ground.guard }], guard := some (10, true) }) (v := .bool true) rfl (by kernel_rfl) (by kernel_rfl) (by kernel_rfl) (fun _ _ _ h => h) (Or.inl ⟨by kernel_rfl, ?_⟩) (⟨keepA (keepD c0), keepA (keepD c1), keepA (keepD d0), keepA (keepD d1)⟩) ?_
              · intro W hSw
                go_simp
              try simp only [Act.put, List.setIfInBounds_toArray, List.set_cons_zero, List.set_cons_succ]
              refine wpAnyH_take (i := 30) (oi := { dst := some 48, op := Go.Op.pick (Go.Operand.tmp 28) (Go.Operand.tmp 47) (Go.Operand.const (Go.Value.bool false)), type := 4, pos := "ref.go:17", after := #[{ on := 10, ground := Go.Ground.data }, { on := 29, ground := Go.Ground.data }, { on := 7, ground := Go.Ground.guard }], guard := some (7, false) }) (v := .bool true) rfl (by kernel_rfl) (by kernel_rfl) (by kernel_rfl) (fun _ _ _ h => h) (Or.inl ⟨by kernel_rfl, ?_⟩) (⟨keepA (keepD c0), keepA (keepD c1), keepA (keepD d0), keepA (keepD d1)⟩) ?_
              · intro W hSw
                go_simp
              try simp only [Act.put, List.setIfInBounds_toArray, List.set_cons_zero, List.set_cons_succ]
              refine wpAnyH_take (i := 31) (oi := { dst := some 49, op := Go.Op.pick (Go.Operand.tmp 25) (Go.Operand.const (Go.Value.bool true)) (Go.Operand.tmp 48), type := 4, pos := "ref.go:17", after := #[{ on := 7, ground := Go.Ground.data }, { on := 30, ground := Go.Ground.data }], guard := none }) (v := .bool true) rfl (by kernel_rfl) (by kernel_rfl) (by kernel_rfl) (fun _ _ _ h => h) (Or.inl ⟨by kernel_rfl, ?_⟩) (⟨keepA (keepD c0), keepA (keepD c1), keepA (keepD d0), keepA (keepD d1)⟩) ?_
              · intro W hSw
                go_simp
              try simp only [Act.put, List.setIfInBounds_toArray, List.set_cons_zero, List.set_cons_succ]
              refine wpAnyH_done (by kernel_rfl) ?_ _
              refine NoPanic.normal ?_
              go_wp2
              go_ret
              have e := HT.out
              rw [check_no ⟨h1, h2⟩ (Hnot.out (fun h => by have := h.2; rw [HE.out] at this; omega))] at e
              subst e
              exact ⟨rfl, by
              repeat first | exact hbel | refine Below.drew ?_ | refine Below.alloc ?_ (by first | exact hsr | (simp; omega)) _⟩
            · have q : decide (a ≤ c + m) = false := by simp; omega
              go_wp2
              refine wp_region_noPanic ?_
              refine wp_region_held_drew (S := fun W => W.cell? (ad.add ((j + 1) * 2)) = some (.int .i64 a) ∧ W.cell? ⟨(ad.add ((j + 1) * 2)).block, (ad.add ((j + 1) * 2)).off + 1, none⟩ = some (.int .i64 n) ∧ W.cell? (ad.add (j * 2)) = some (.int .i64 c) ∧ W.cell? ⟨(ad.add (j * 2)).block, (ad.add (j * 2)).off + 1, none⟩ = some (.int .i64 m)) (by kernel_rfl) ⟨c0, c1, d0, d1⟩ (fun _ => ?_)
              refine wpAnyH_take (i := 0) (oi := { dst := some 18, op := Go.Op.move (Go.Operand.tmp 0), type := 3, pos := "ref.go:17", after := #[], guard := none }) (v := ?_) rfl (by kernel_rfl) (by kernel_rfl) (by kernel_rfl) (fun _ _ _ h => h) (Or.inl ⟨by kernel_rfl, ?_⟩) (⟨c0, c1, d0, d1⟩) ?_
              rotate_left
              · intro W hSw
                obtain ⟨s0, s1, s2, s3⟩ := hSw
                go_simp
                all_goals with_reducible rfl
              try simp only [Act.put, List.setIfInBounds_toArray, List.set_cons_zero, List.set_cons_succ]
              refine wpAnyH_take (i := 1) (oi := { dst := some 19, op := Go.Op.move (Go.Operand.tmp 1), type := 22, pos := "ref.go:17", after := #[], guard := none }) (v := ?_) rfl (by kernel_rfl) (by kernel_rfl) (by kernel_rfl) (fun _ _ _ h => h) (Or.inl ⟨by kernel_rfl, ?_⟩) (⟨c0, c1, d0, d1⟩) ?_
              rotate_left
              · intro W hSw
                obtain ⟨s0, s1, s2, s3⟩ := hSw
                go_simp
                all_goals with_reducible rfl
              try simp only [Act.put, List.setIfInBounds_toArray, List.set_cons_zero, List.set_cons_succ]
              refine wpAnyH_take (i := 2) (oi := { dst := some 20, op := Go.Op.move (Go.Operand.tmp 5), type := 3, pos := "ref.go:17", after := #[], guard := none }) (v := ?_) rfl (by kernel_rfl) (by kernel_rfl) (by kernel_rfl) (fun _ _ _ h => h) (Or.inl ⟨by kernel_rfl, ?_⟩) (⟨c0, c1, d0, d1⟩) ?_
              rotate_left
              · intro W hSw
                obtain ⟨s0, s1, s2, s3⟩ := hSw
                go_simp
                all_goals with_reducible rfl
              try simp only [Act.put, List.setIfInBounds_toArray, List.set_cons_zero, List.set_cons_succ]
              refine wpAnyH_take (i := 3) (oi := { dst := some 21, op := Go.Op.indexAddr 22 (Go.Operand.tmp 19) (Go.Operand.tmp 20), type := 0, pos := "ref.go:17", after := #[{ on := 1, ground := Go.Ground.data }, { on := 2, ground := Go.Ground.data }], guard := none }) (v := ?_) rfl (by kernel_rfl) (by kernel_rfl) (by kernel_rfl) (fun _ _ _ h => h) (Or.inl ⟨by kernel_rfl, ?_⟩) (⟨c0, c1, d0, d1⟩) ?_
              rotate_left
              · intro W hSw
                obtain ⟨s0, s1, s2, s3⟩ := hSw
                go_simp
                all_goals with_reducible rfl
              try simp only [Act.put, List.setIfInBounds_toArray, List.set_cons_zero, List.set_cons_succ]
              refine wpAnyH_take (i := 4) (oi := { dst := some 22, op := Go.Op.load 25 (Go.Operand.tmp 21), type := 25, pos := "ref.go:17", after := #[{ on := 3, ground := Go.Ground.data }], guard := none }) (v := ?_) rfl (by kernel_rfl) (by kernel_rfl) (by kernel_rfl) (fun _ _ _ h => h) (Or.inl ⟨by kernel_rfl, ?_⟩) (⟨c0, c1, d0, d1⟩) ?_
              rotate_left
              · intro W hSw
                obtain ⟨s0, s1, s2, s3⟩ := hSw
                go_simp
                all_goals with_reducible rfl
              try simp only [Act.put, List.setIfInBounds_toArray, List.set_cons_zero, List.set_cons_succ]
              refine wpAnyH_ready (rs := [5]) (by kernel_rfl) (by simp) ?_
              refine AllReadyH.cons rfl (fun K hK => ?_) AllReadyH.nil
              go_simp
              refine (LI.out _).mono ?_
              rintro e w' ⟨rfl, rfl⟩
              go_wp2_with fail
              refine hK.out _ _ (⟨keepA (keepD c0), keepA (keepD c1), keepA (keepD d0), keepA (keepD d1)⟩) (fun _ => ?_)
              clear hK K
              try simp only [Act.put, List.setIfInBounds_toArray, List.set_cons_zero, List.set_cons_succ]
              refine wpAnyH_take (i := 6) (oi := { dst := some 24, op := Go.Op.unOp Go.UnOp.not 4 (Go.Operand.tmp 23), type := 4, pos := "ref.go:17", after := #[{ on := 5, ground := Go.Ground.data }], guard := none }) (v := .bool false) rfl (by kernel_rfl) (by kernel_rfl) (by kernel_rfl) (fun _ _ _ h => h) (Or.inl ⟨by kernel_rfl, ?_⟩) (⟨keepA (keepD c0), keepA (keepD c1), keepA (keepD d0), keepA (keepD d1)⟩) ?_
              · intro W hSw
                go_simp
              try simp only [Act.put, List.setIfInBounds_toArray, List.set_cons_zero, List.set_cons_succ]
              refine wpAnyH_take (i := 7) (oi := { dst := some 25, op := Go.Op.move (Go.Operand.tmp 24), type := 4, pos := "ref.go:17", after := #[{ on := 6, ground := Go.Ground.data }, { on := 5, ground := Go.Ground.chain }], guard := none }) (v := .bool false) rfl (by kernel_rfl) (by kernel_rfl) (by kernel_rfl) (fun _ _ _ h => h) (Or.inl ⟨by kernel_rfl, ?_⟩) (⟨keepA (keepD c0), keepA (keepD c1), keepA (keepD d0), keepA (keepD d1)⟩) ?_
              · intro W hSw
                go_simp
              try simp only [Act.put, List.setIfInBounds_toArray, List.set_cons_zero, List.set_cons_succ]
              refine wpAnyH_take (i := 8) (oi := { dst := some 26, op := Go.Op.move (Go.Operand.tmp 5), type := 3, pos := "ref.go:17", after := #[{ on := 7, ground := Go.Ground.guard }], guard := some (7, false) }) (v := ?_) rfl (by kernel_rfl) (by kernel_rfl) (by kernel_rfl) (fun _ _ _ h => h) (Or.inl ⟨by kernel_rfl, ?_⟩) (⟨keepA (keepD c0), keepA (keepD c1), keepA (keepD d0), keepA (keepD d1)⟩) ?_
              rotate_left
              · intro W hSw
                go_simp
                all_goals with_reducible rfl
              try simp only [Act.put, List.setIfInBounds_toArray, List.set_cons_zero, List.set_cons_succ]
              refine wpAnyH_take (i := 9) (oi := { dst := some 27, op := Go.Op.binOp Go.BinOp.gtr 3 (Go.Operand.tmp 26) (Go.Operand.const (Go.Value.int Go.IntKind.i64 0)) 3, type := 4, pos := "ref.go:17", after := #[{ on := 8, ground := Go.Ground.data }, { on := 7, ground := Go.Ground.guard }], guard := some (7, false) }) (v := .bool true) rfl (by kernel_rfl) (by kernel_rfl) (by kernel_rfl) (fun _ _ _ h => h) (Or.inl ⟨by kernel_rfl, ?_⟩) (⟨keepA (keepD c0), keepA (keepD c1), keepA (keepD d0), keepA (keepD d1)⟩) ?_
              · intro W hSw
                go_simp
              try simp only [Act.put, List.setIfInBounds_toArray, List.set_cons_zero, List.set_cons_succ]
              refine wpAnyH_take (i := 10) (oi := { dst := some 28, op := Go.Op.move (Go.Operand.tmp 27), type := 4, pos := "ref.go:17", after := #[{ on := 9, ground := Go.Ground.data }, { on := 7, ground := Go.Ground.chain }, { on := 7, ground := Go.Ground.guard }], guard := some (7, false) }) (v := .bool true) rfl (by kernel_rfl) (by kernel_rfl) (by kernel_rfl) (fun _ _ _ h => h) (Or.inl ⟨by kernel_rfl, ?_⟩) (⟨keepA (keepD c0), keepA (keepD c1), keepA (keepD d0), keepA (keepD d1)⟩) ?_
              · intro W hSw
                go_simp
              try simp only [Act.put, List.setIfInBounds_toArray, List.set_cons_zero, List.set_cons_succ]
              refine wpAnyH_take (i := 11) (oi := { dst := some 29, op := Go.Op.move (Go.Operand.tmp 1), type := 22, pos := "ref.go:17", after := #[{ on := 10, ground := Go.Ground.guard }], guard := some (10, true) }) (v := ?_) rfl (by kernel_rfl) (by kernel_rfl) (by kernel_rfl) (fun _ _ _ h => h) (Or.inl ⟨by kernel_rfl, ?_⟩) (⟨keepA (keepD c0), keepA (keepD c1), keepA (keepD d0), keepA (keepD d1)⟩) ?_
              rotate_left
              · intro W hSw
                obtain ⟨s0, s1, s2, s3⟩ := hSw
                go_simp
                all_goals with_reducible rfl
              try simp only [Act.put, List.setIfInBounds_toArray, List.set_cons_zero, List.set_cons_succ]
              refine wpAnyH_take (i := 12) (oi := { dst := some 30, op := Go.Op.move (Go.Operand.tmp 5), type := 3, pos := "ref.go:17", after := #[{ on := 10, ground := Go.Ground.guard }], guard := some (10, true) }) (v := ?_) rfl (by kernel_rfl) (by kernel_rfl) (by kernel_rfl) (fun _ _ _ h => h) (Or.inl ⟨by kernel_rfl, ?_⟩) (⟨keepA (keepD c0), keepA (keepD c1), keepA (keepD d0), keepA (keepD d1)⟩) ?_
              rotate_left
              · intro W hSw
                obtain ⟨s0, s1, s2, s3⟩ := hSw
                go_simp
                all_goals with_reducible rfl
              try simp only [Act.put, List.setIfInBounds_toArray, List.set_cons_zero, List.set_cons_succ]
              refine wpAnyH_take (i := 13) (oi := { dst := some 31, op := Go.Op.indexAddr 22 (Go.Operand.tmp 29) (Go.Operand.tmp 30), type := 0, pos := "ref.go:17", after := #[{ on := 11, ground := Go.Ground.data }, { on := 12, ground := Go.Ground.data }, { on := 10, ground := Go.Ground.guard }], guard := some (10, true) }) (v := ?_) rfl (by kernel_rfl) (by kernel_rfl) (by kernel_rfl) (fun _ _ _ h => h) (Or.inl ⟨by kernel_rfl, ?_⟩) (⟨keepA (keepD c0), keepA (keepD c1), keepA (keepD d0), keepA (keepD d1)⟩) ?_
              rotate_left
              · intro W hSw
                obtain ⟨s0, s1, s2, s3⟩ := hSw
                go_simp
                all_goals with_reducible rfl
              try simp only [Act.put, List.setIfInBounds_toArray, List.set_cons_zero, List.set_cons_succ]
              refine wpAnyH_take (i := 14) (oi := { dst := some 32, op := Go.Op.fieldAddr 25 (Go.Operand.tmp 31) 0, type := 0, pos := "ref.go:17", after := #[{ on := 13, ground := Go.Ground.data }, { on := 10, ground := Go.Ground.guard }], guard := some (10, true) }) (v := ?_) rfl (by kernel_rfl) (by kernel_rfl) (by kernel_rfl) (fun _ _ _ h => h) (Or.inl ⟨by kernel_rfl, ?_⟩) (⟨keepA (keepD c0), keepA (keepD c1), keepA (keepD d0), keepA (keepD d1)⟩) ?_
              rotate_left
              · intro W hSw
                obtain ⟨s0, s1, s2, s3⟩ := hSw
                go_simp
                all_goals with_reducible rfl
              try simp only [Act.put, List.setIfInBounds_toArray, List.set_cons_zero, List.set_cons_succ]
              refine wpAnyH_take (i := 15) (oi := { dst := some 33, op := Go.Op.load 3 (Go.Operand.tmp 32), type := 3, pos := "ref.go:17", after := #[{ on := 14, ground := Go.Ground.data }, { on := 10, ground := Go.Ground.guard }], guard := some (10, true) }) (v := ?_) rfl (by kernel_rfl) (by kernel_rfl) (by kernel_rfl) (fun _ _ _ h => h) (Or.inl ⟨by kernel_rfl, ?_⟩) (⟨keepA (keepD c0), keepA (keepD c1), keepA (keepD d0), keepA (keepD d1)⟩) ?_
              rotate_left
              · intro W hSw
                obtain ⟨s0, s1, s2, s3⟩ := hSw
                go_simp
                all_goals with_reducible rfl
              try simp only [Act.put, List.setIfInBounds_toArray, List.set_cons_zero, List.set_cons_succ]
              refine wpAnyH_take (i := 16) (oi := { dst := some 34, op := Go.Op.move (Go.Operand.tmp 1), type := 22, pos := "ref.go:17", after := #[{ on := 10, ground := Go.Ground.guard }], guard := some (10, true) }) (v := ?_) rfl (by kernel_rfl) (by kernel_rfl) (by kernel_rfl) (fun _ _ _ h => h) (Or.inl ⟨by kernel_rfl, ?_⟩) (⟨keepA (keepD c0), keepA (keepD c1), keepA (keepD d0), keepA (keepD d1)⟩) ?_
              rotate_left
              · intro W hSw
                obtain ⟨s0, s1, s2, s3⟩ := hSw
                go_simp
                all_goals with_reducible rfl
              try simp only [Act.put, List.setIfInBounds_toArray, List.set_cons_zero, List.set_cons_succ]
              refine wpAnyH_take (i := 17) (oi := { dst := some 35, op := Go.Op.move (Go.Operand.tmp 5), type := 3, pos := "ref.go:17", after := #[{ on := 10, ground := Go.Ground.guard }], guard := some (10, true) }) (v := ?_) rfl (by kernel_rfl) (by kernel_rfl) (by kernel_rfl) (fun _ _ _ h => h) (Or.inl ⟨by kernel_rfl, ?_⟩) (⟨keepA (keepD c0), keepA (keepD c1), keepA (keepD d0), keepA (keepD d1)⟩) ?_
              rotate_left
              · intro W hSw
                obtain ⟨s0, s1, s2, s3⟩ := hSw
                go_simp
                all_goals with_reducible rfl
              try simp only [Act.put, List.setIfInBounds_toArray, List.set_cons_zero, List.set_cons_succ]
              refine wpAnyH_take (i := 18) (oi := { dst := some 36, op := Go.Op.binOp Go.BinOp.sub 3 (Go.Operand.tmp 35) (Go.Operand.const (Go.Value.int Go.IntKind.i64 1)) 3, type := 3, pos := "ref.go:17", after := #[{ on := 17, ground := Go.Ground.data }, { on := 10, ground := Go.Ground.guard }], guard := some (10, true) }) (v := ?_) rfl (by kernel_rfl) (by kernel_rfl) (by kernel_rfl) (fun _ _ _ h => h) (Or.inl ⟨by kernel_rfl, ?_⟩) (⟨keepA (keepD c0), keepA (keepD c1), keepA (keepD d0), keepA (keepD d1)⟩) ?_
              rotate_left
              · intro W hSw
                obtain ⟨s0, s1, s2, s3⟩ := hSw
                go_simp
                all_goals with_reducible rfl
              try simp only [Act.put, List.setIfInBounds_toArray, List.set_cons_zero, List.set_cons_succ]
              refine wpAnyH_take (i := 19) (oi := { dst := some 37, op := Go.Op.indexAddr 22 (Go.Operand.tmp 34) (Go.Operand.tmp 36), type := 0, pos := "ref.go:17", after := #[{ on := 16, ground := Go.Ground.data }, { on := 18, ground := Go.Ground.data }, { on := 10, ground := Go.Ground.guard }], guard := some (10, true) }) (v := ?_) rfl (by kernel_rfl) (by kernel_rfl) (by kernel_rfl) (fun _ _ _ h => h) (Or.inl ⟨by kernel_rfl, ?_⟩) (⟨keepA (keepD c0), keepA (keepD c1), keepA (keepD d0), keepA (keepD d1)⟩) ?_
              rotate_left
              · intro W hSw
                obtain ⟨s0, s1, s2, s3⟩ := hSw
                go_simp
                all_goals with_reducible rfl
              try simp only [Act.put, List.setIfInBounds_toArray, List.set_cons_zero, List.set_cons_succ]
              refine wpAnyH_take (i := 20) (oi := { dst := some 38, op := Go.Op.fieldAddr 25 (Go.Operand.tmp 37) 0, type := 0, pos := "ref.go:17", after := #[{ on := 19, ground := Go.Ground.data }, { on := 10, ground := Go.Ground.guard }], guard := some (10, true) }) (v := ?_) rfl (by kernel_rfl) (by kernel_rfl) (by kernel_rfl) (fun _ _ _ h => h) (Or.inl ⟨by kernel_rfl, ?_⟩) (⟨keepA (keepD c0), keepA (keepD c1), keepA (keepD d0), keepA (keepD d1)⟩) ?_
              rotate_left
              · intro W hSw
                obtain ⟨s0, s1, s2, s3⟩ := hSw
                go_simp
                all_goals with_reducible rfl
              try simp only [Act.put, List.setIfInBounds_toArray, List.set_cons_zero, List.set_cons_succ]
              refine wpAnyH_take (i := 21) (oi := { dst := some 39, op := Go.Op.load 3 (Go.Operand.tmp 38), type := 3, pos := "ref.go:17", after := #[{ on := 20, ground := Go.Ground.data }, { on := 10, ground := Go.Ground.guard }], guard := some (10, true) }) (v := ?_) rfl (by kernel_rfl) (by kernel_rfl) (by kernel_rfl) (fun _ _ _ h => h) (Or.inl ⟨by kernel_rfl, ?_⟩) (⟨keepA (keepD c0), keepA (keepD c1), keepA (keepD d0), keepA (keepD d1)⟩) ?_
              rotate_left
              · intro W hSw
                obtain ⟨s0, s1, s2, s3⟩ := hSw
                go_simp
                all_goals with_reducible rfl
              try simp only [Act.put, List.setIfInBounds_toArray, List.set_cons_zero, List.set_cons_succ]
              refine wpAnyH_take (i := 22) (oi := { dst := some 40, op := Go.Op.move (Go.Operand.tmp 1), type := 22, pos := "ref.go:17", after := #[{ on := 10, ground := Go.Ground.guard }], guard := some (10, true) }) (v := ?_) rfl (by kernel_rfl) (by kernel_rfl) (by kernel_rfl) (fun _ _ _ h => h) (Or.inl ⟨by kernel_rfl, ?_⟩) (⟨keepA (keepD c0), keepA (keepD c1), keepA (keepD d0), keepA (keepD d1)⟩) ?_
              rotate_left
              · intro W hSw
                obtain ⟨s0, s1, s2, s3⟩ := hSw
                go_simp
                all_goals with_reducible rfl
              try simp only [Act.put, List.setIfInBounds_toArray, List.set_cons_zero, List.set_cons_succ]
              refine wpAnyH_take (i := 23) (oi := { dst := some 41, op := Go.Op.move (Go.Operand.tmp 5), type := 3, pos := "ref.go:17", after := #[{ on := 10, ground := Go.Ground.guard }], guard := some (10, true) }) (v := ?_) rfl (by kernel_rfl) (by kernel_rfl) (by kernel_rfl) (fun _ _ _ h => h) (Or.inl ⟨by kernel_rfl, ?_⟩) (⟨keepA (keepD c0), keepA (keepD c1), keepA (keepD d0), keepA (keepD d1)⟩) ?_
              rotate_left
              · intro W hSw
                obtain ⟨s0, s1, s2, s3⟩ := hSw
                go_simp
                all_goals with_reducible rfl
              try simp only [Act.put, List.setIfInBounds_toArray, List.set_cons_zero, List.set_cons_succ]
              refine wpAnyH_take (i := 24) (oi := { dst := some 42, op := Go.Op.binOp Go.BinOp.sub 3 (Go.Operand.tmp 41) (Go.Operand.const (Go.Value.int Go.IntKind.i64 1)) 3, type := 3, pos := "ref.go:17", after := #[{ on := 23, ground := Go.Ground.data }, { on := 10, ground := Go.Ground.guard }], guard := some (10, true) }) (v := ?_) rfl (by kernel_rfl) (by kernel_rfl) (by kernel_rfl) (fun _ _ _ h => h) (Or.inl ⟨by kernel_rfl, ?_⟩) (⟨keepA (keepD c0), keepA (keepD c1), keepA (keepD d0), keepA (keepD d1)⟩) ?_
              rotate_left
              · intro W hSw
                obtain ⟨s0, s1, s2, s3⟩ := hSw
                go_simp
                all_goals with_reducible rfl
              try simp only [Act.put, List.setIfInBounds_toArray, List.set_cons_zero, List.set_cons_succ]
              refine wpAnyH_take (i := 25) (oi := { dst := some 43, op := Go.Op.indexAddr 22 (Go.Operand.tmp 40) (Go.Operand.tmp 42), type := 0, pos := "ref.go:17", after := #[{ on := 22, ground := Go.Ground.data }, { on := 24, ground := Go.Ground.data }, { on := 10, ground := Go.Ground.guard }], guard := some (10, true) }) (v := ?_) rfl (by kernel_rfl) (by kernel_rfl) (by kernel_rfl) (fun _ _ _ h => h) (Or.inl ⟨by kernel_rfl, ?_⟩) (⟨keepA (keepD c0), keepA (keepD c1), keepA (keepD d0), keepA (keepD d1)⟩) ?_
              rotate_left
              · intro W hSw
                obtain ⟨s0, s1, s2, s3⟩ := hSw
                go_simp
                all_goals with_reducible rfl
              try simp only [Act.put, List.setIfInBounds_toArray, List.set_cons_zero, List.set_cons_succ]
              refine wpAnyH_take (i := 26) (oi := { dst := some 44, op := Go.Op.fieldAddr 25 (Go.Operand.tmp 43) 1, type := 0, pos := "ref.go:17", after := #[{ on := 25, ground := Go.Ground.data }, { on := 10, ground := Go.Ground.guard }], guard := some (10, true) }) (v := ?_) rfl (by kernel_rfl) (by kernel_rfl) (by kernel_rfl) (fun _ _ _ h => h) (Or.inl ⟨by kernel_rfl, ?_⟩) (⟨keepA (keepD c0), keepA (keepD c1), keepA (keepD d0), keepA (keepD d1)⟩) ?_
              rotate_left
              · intro W hSw
                obtain ⟨s0, s1, s2, s3⟩ := hSw
                go_simp
                all_goals with_reducible rfl
              try simp only [Act.put, List.setIfInBounds_toArray, List.set_cons_zero, List.set_cons_succ]
              refine wpAnyH_take (i := 27) (oi := { dst := some 45, op := Go.Op.load 3 (Go.Operand.tmp 44), type := 3, pos := "ref.go:17", after := #[{ on := 26, ground := Go.Ground.data }, { on := 10, ground := Go.Ground.guard }], guard := some (10, true) }) (v := ?_) rfl (by kernel_rfl) (by kernel_rfl) (by kernel_rfl) (fun _ _ _ h => h) (Or.inl ⟨by kernel_rfl, ?_⟩) (⟨keepA (keepD c0), keepA (keepD c1), keepA (keepD d0), keepA (keepD d1)⟩) ?_
              rotate_left
              · intro W hSw
                obtain ⟨s0, s1, s2, s3⟩ := hSw
                go_simp
                all_goals with_reducible rfl
              try simp only [Act.put, List.setIfInBounds_toArray, List.set_cons_zero, List.set_cons_succ]
              refine wpAnyH_take (i := 28) (oi := { dst := some 46, op := Go.Op.binOp Go.BinOp.add 3 (Go.Operand.tmp 39) (Go.Operand.tmp 45) 3, type := 3, pos := "ref.go:17", after := #[{ on := 21, ground := Go.Ground.data }, { on := 27, ground := Go.Ground.data }, { on := 10, ground := Go.Ground.guard }], guard := some (10, true) }) (v := ?_) rfl (by kernel_rfl) (by kernel_rfl) (by kernel_rfl) (fun _ _ _ h => h) (Or.inl ⟨by kernel_rfl, ?_⟩) (⟨keepA (keepD c0), keepA (keepD c1), keepA (keepD d0), keepA (keepD d1)⟩) ?_
              rotate_left
              · intro W hSw
                obtain ⟨s0, s1, s2, s3⟩ := hSw
                go_simp
                all_goals with_reducible rfl
              try simp only [Act.put, List.setIfInBounds_toArray, List.set_cons_zero, List.set_cons_succ]
              refine wpAnyH_take (i := 29) (oi := { dst := some 47, op := Go.Op.binOp Go.BinOp.leq 3 (Go.Operand.tmp 33) (Go.Operand.tmp 46) 3, type := 4, pos := "ref.go:17", after := #[{ on := 15, ground := Go.Ground.data }, { on := 28, ground := Go.Ground.data }, { on := 10, ground := Go.Ground.guard }], guard := some (10, true) }) (v := .bool false) rfl (by kernel_rfl) (by kernel_rfl) (by kernel_rfl) (fun _ _ _ h => h) (Or.inl ⟨by kernel_rfl, ?_⟩) (⟨keepA (keepD c0), keepA (keepD c1), keepA (keepD d0), keepA (keepD d1)⟩) ?_
              · intro W hSw
                go_simp
              try simp only [Act.put, List.setIfInBounds_toArray, List.set_cons_zero, List.set_cons_succ]
              refine wpAnyH_take (i := 30) (oi := { dst := some 48, op := Go.Op.pick (Go.Operand.tmp 28) (Go.Operand.tmp 47) (Go.Operand.const (Go.Value.bool false)), type := 4, pos := "ref.go:17", after := #[{ on := 10, ground := Go.Ground.data }, { on := 29, ground := Go.Ground.data }, { on := 7, ground := Go.Ground.guard }], guard := some (7, false) }) (v := .bool false) rfl (by kernel_rfl) (by kernel_rfl) (by kernel_rfl) (fun _ _ _ h => h) (Or.inl ⟨by kernel_rfl, ?_⟩) (⟨keepA (keepD c0), keepA (keepD c1), keepA (keepD d0), keepA (keepD d1)⟩) ?_
              · intro W hSw
                go_simp
              try simp only [Act.put, List.setIfInBounds_toArray, List.set_cons_zero, List.set_cons_succ]
              refine wpAnyH_take (i := 31) (oi := { dst := some 49, op := Go.Op.pick (Go.Operand.tmp 25) (Go.Operand.const (Go.Value.bool true)) (Go.Operand.tmp 48), type := 4, pos := "ref.go:17", after := #[{ on := 7, ground := Go.Ground.data }, { on := 30, ground := Go.Ground.data }], guard := none }) (v := .bool false) rfl (by kernel_rfl) (by kernel_rfl) (by kernel_rfl) (fun _ _ _ h => h) (Or.inl ⟨by kernel_rfl, ?_⟩) (⟨keepA (keepD c0), keepA (keepD c1), keepA (keepD d0), keepA (keepD d1)⟩) ?_
              · intro W hSw
                go_simp
              try simp only [Act.put, List.setIfInBounds_toArray, List.set_cons_zero, List.set_cons_succ]
              refine wpAnyH_done (by kernel_rfl) ?_ _
              refine NoPanic.normal ?_
              clear ka kb kl kl2 kl3 sm
              go_wp2
              go_roundw
              case rel => exact ⟨j + 1 + 1, by omega, by go_num, Hnext.out hlies (by rw [HE.out]; show c + m < a; omega), by
              repeat first | exact hbel | refine Below.drew ?_ | refine Below.alloc ?_ (by first | exact hsr | (simp; omega)) _⟩
              case measure => simp [intOf]; omega
        · have LI : Hid (∀ w : World, Calls Try.prog 32 #[.int .i64 b, eV a n] w fun e w' => e = .returned (.bool false) ∧ w.alloc (eO a n) = w') := fun w => by have := LI.out w; rw [lies_no hlies] at this; exact this
          clear Hprev hend hpok hok ht
          go_wp2
          refine wp_region_noPanic ?_
          refine wp_region_held_drew (S := fun W => W.cell? (ad.add (k * 2)) = some (.int .i64 a) ∧ W.cell? ⟨(ad.add (k * 2)).block, (ad.add (k * 2)).off + 1, none⟩ = some (.int .i64 n)) (by kernel_rfl) ⟨c0, c1⟩ (fun _ => ?_)
          refine wpAnyH_take (i := 0) (oi := { dst := some 18, op := Go.Op.move (Go.Operand.tmp 0), type := 3, pos := "ref.go:17", after := #[], guard := none }) (v := ?_) rfl (by kernel_rfl) (by kernel_rfl) (by kernel_rfl) (fun _ _ _ h => h) (Or.inl ⟨by kernel_rfl, ?_⟩) (⟨c0, c1⟩) ?_
          rotate_left
          · intro W hSw
            obtain ⟨s0, s1⟩ := hSw
            go_simp
            all_goals with_reducible rfl
          try simp only [Act.put, List.setIfInBounds_toArray, List.set_cons_zero, List.set_cons_succ]
          refine wpAnyH_take (i := 1) (oi := { dst := some 19, op := Go.Op.move (Go.Operand.tmp 1), type := 22, pos := "ref.go:17", after := #[], guard := none }) (v := ?_) rfl (by kernel_rfl) (by kernel_rfl) (by kernel_rfl) (fun _ _ _ h => h) (Or.inl ⟨by kernel_rfl, ?_⟩) (⟨c0, c1⟩) ?_
          rotate_left
          · intro W hSw
            obtain ⟨s0, s1⟩ := hSw
            go_simp
            all_goals with_reducible rfl
          try simp only [Act.put, List.setIfInBounds_toArray, List.set_cons_zero, List.set_cons_succ]
          refine wpAnyH_take (i := 2) (oi := { dst := some 20, op := Go.Op.move (Go.Operand.tmp 5), type := 3, pos := "ref.go:17", after := #[], guard := none }) (v := ?_) rfl (by kernel_rfl) (by kernel_rfl) (by kernel_rfl) (fun _ _ _ h => h) (Or.inl ⟨by kernel_rfl, ?_⟩) (⟨c0, c1⟩) ?_
          rotate_left
          · intro W hSw
            obtain ⟨s0, s1⟩ := hSw
            go_simp
            all_goals with_reducible rfl
          try simp only [Act.put, List.setIfInBounds_toArray, List.set_cons_zero, List.set_cons_succ]
          refine wpAnyH_take (i := 3) (oi := { dst := some 21, op := Go.Op.indexAddr 22 (Go.Operand.tmp 19) (Go.Operand.tmp 20), type := 0, pos := "ref.go:17", after := #[{ on := 1, ground := Go.Ground.data }, { on := 2, ground := Go.Ground.data }], guard := none }) (v := ?_) rfl (by kernel_rfl) (by kernel_rfl) (by kernel_rfl) (fun _ _ _ h => h) (Or.inl ⟨by kernel_rfl, ?_⟩) (⟨c0, c1⟩) ?_
          rotate_left
          · intro W hSw
            obtain ⟨s0, s1⟩ := hSw
            go_simp
            all_goals with_reducible rfl
          try simp only [Act.put, List.setIfInBounds_toArray, List.set_cons_zero, List.set_cons_succ]
          refine wpAnyH_take (i := 4) (oi := { dst := some 22, op := Go.Op.load 25 (Go.Operand.tmp 21), type := 25, pos := "ref.go:17", after := #[{ on := 3, ground := Go.Ground.data }], guard := none }) (v := ?_) rfl (by kernel_rfl) (by kernel_rfl) (by kernel_rfl) (fun _ _ _ h => h) (Or.inl ⟨by kernel_rfl, ?_⟩) (⟨c0, c1⟩) ?_
          rotate_left
          · intro W hSw
            obtain ⟨s0, s1⟩ := hSw
            go_simp
            all_goals with_reducible rfl
          try simp only [Act.put, List.setIfInBounds_toArray, List.set_cons_zero, List.set_cons_succ]
          refine wpAnyH_ready (rs := [5]) (by kernel_rfl) (by simp) ?_
          refine AllReadyH.cons rfl (fun K hK => ?_) AllReadyH.nil
          go_simp
          refine (LI.out _).mono ?_
          rintro e w' ⟨rfl, rfl⟩
          go_wp2_with fail
          refine hK.out _ _ (⟨keepA (keepD c0), keepA (keepD c1)⟩) (fun _ => ?_)
          clear hK K
          try simp only [Act.put, List.setIfInBounds_toArray, List.set_cons_zero, List.set_cons_succ]
          refine wpAnyH_take (i := 6) (oi := { dst := some 24, op := Go.Op.unOp Go.UnOp.not 4 (Go.Operand.tmp 23), type := 4, pos := "ref.go:17", after := #[{ on := 5, ground := Go.Ground.data }], guard := none }) (v := .bool true) rfl (by kernel_rfl) (by kernel_rfl) (by kernel_rfl) (fun _ _ _ h => h) (Or.inl ⟨by kernel_rfl, ?_⟩) (⟨keepA (keepD c0), keepA (keepD c1)⟩) ?_
          · intro W hSw
            go_simp
          try simp only [Act.put, List.setIfInBounds_toArray, List.set_cons_zero, List.set_cons_succ]
          refine wpAnyH_take (i := 7) (oi := { dst := some 25, op := Go.Op.move (Go.Operand.tmp 24), type := 4, pos := "ref.go:17", after := #[{ on := 6, ground := Go.Ground.data }, { on := 5, ground := Go.Ground.chain }], guard := none }) (v := .bool true) rfl (by kernel_rfl) (by kernel_rfl) (by kernel_rfl) (fun _ _ _ h => h) (Or.inl ⟨by kernel_rfl, ?_⟩) (⟨keepA (keepD c0), keepA (keepD c1)⟩) ?_
          · intro W hSw
            go_simp
          try simp only [Act.put, List.setIfInBounds_toArray, List.set_cons_zero, List.set_cons_succ]
          refine wpAnyH_take (i := 8) (oi := { dst := some 26, op := Go.Op.move (Go.Operand.tmp 5), type := 3, pos := "ref.go:17", after := #[{ on := 7, ground := Go.Ground.guard }], guard := some (7, false) }) (v := undef) rfl (by kernel_rfl) (by kernel_rfl) (by kernel_rfl) (fun _ _ _ h => h) (Or.inr ⟨by kernel_rfl, rfl⟩) (⟨keepA (keepD c0), keepA (keepD c1)⟩) ?_
          try simp only [Act.put, List.setIfInBounds_toArray, List.set_cons_zero, List.set_cons_succ]
          refine wpAnyH_take (i := 9) (oi := { dst := some 27, op := Go.Op.binOp Go.BinOp.gtr 3 (Go.Operand.tmp 26) (Go.Operand.const (Go.Value.int Go.IntKind.i64 0)) 3, type := 4, pos := "ref.go:17", after := #[{ on := 8, ground := Go.Ground.data }, { on := 7, ground := Go.Ground.guard }], guard := some (7, false) }) (v := undef) rfl (by kernel_rfl) (by kernel_rfl) (by kernel_rfl) (fun _ _ _ h => h) (Or.inr ⟨by kernel_rfl, rfl⟩) (⟨keepA (keepD c0), keepA (keepD c1)⟩) ?_
          try simp only [Act.put, List.setIfInBounds_toArray, List.set_cons_zero, List.set_cons_succ]
          refine wpAnyH_take (i := 10) (oi := { dst := some 28, op := Go.Op.move (Go.Operand.tmp 27), type := 4, pos := "ref.go:17", after := #[{ on := 9, ground := Go.Ground.data }, { on := 7, ground := Go.Ground.chain }, { on := 7, ground := Go.Ground.guard }], guard := some (7, false) }) (v := undef) rfl (by kernel_rfl) (by kernel_rfl) (by kernel_rfl) (fun _ _ _ h => h) (Or.inr ⟨by kernel_rfl, rfl⟩) (⟨keepA (keepD c0), keepA (keepD c1)⟩) ?_
          try simp only [Act.put, List.setIfInBounds_toArray, List.set_cons_zero, List.set_cons_succ]
          refine wpAnyH_take (i := 11) (oi := { dst := some 29, op := Go.Op.move (Go.Operand.tmp 1), type := 22, pos := "ref.go:17", after := #[{ on := 10, ground := Go.Ground.guard }], guard := some (10, true) }) (v := undef) rfl (by kernel_rfl) (by kernel_rfl) (by kernel_rfl) (fun _ _ _ h => h) (Or.inr ⟨by kernel_rfl, rfl⟩) (⟨keepA (keepD c0), keepA (keepD c1)⟩) ?_
          try simp only [Act.put, List.setIfInBounds_toArray, List.set_cons_zero, List.set_cons_succ]
          refine wpAnyH_take (i := 12) (oi := { dst := some 30, op := Go.Op.move (Go.Operand.tmp 5), type := 3, pos := "ref.go:17", after := #[{ on := 10, ground := Go.Ground.guard }], guard := some (10, true) }) (v := undef) rfl (by kernel_rfl) (by kernel_rfl) (by kernel_rfl) (fun _ _ _ h => h) (Or.inr ⟨by kernel_rfl, rfl⟩) (⟨keepA (keepD c0), keepA (keepD c1)⟩) ?_
          try simp only [Act.put, List.setIfInBounds_toArray, List.set_cons_zero, List.set_cons_succ]
          refine wpAnyH_take (i := 13) (oi := { dst := some 31, op := Go.Op.indexAddr 22 (Go.Operand.tmp 29) (Go.Operand.tmp 30), type := 0, pos := "ref.go:17", after := #[{ on := 11, ground := Go.Ground.data }, { on := 12, ground := Go.Ground.data }, { on := 10, ground := Go.Ground.guard }], guard := some (10, true) }) (v := undef) rfl (by kernel_rfl) (by kernel_rfl) (by kernel_rfl) (fun _ _ _ h => h) (Or.inr ⟨by kernel_rfl, rfl⟩) (⟨keepA (keepD c0), keepA (keepD c1)⟩) ?_
          try simp only [Act.put, List.setIfInBounds_toArray, List.set_cons_zero, List.set_cons_succ]
          refine wpAnyH_take (i := 14) (oi := { dst := some 32, op := Go.Op.fieldAddr 25 (Go.Operand.tmp 31) 0, type := 0, pos := "ref.go:17", after := #[{ on := 13, ground := Go.Ground.data }, { on := 10, ground := Go.Ground.guard }], guard := some (10, true) }) (v := undef) rfl (by kernel_rfl) (by kernel_rfl) (by kernel_rfl) (fun _ _ _ h => h) (Or.inr ⟨by kernel_rfl, rfl⟩) (⟨keepA (keepD c0), keepA (keepD c1)⟩) ?_
          try simp only [Act.put, List.setIfInBounds_toArray, List.set_cons_zero, List.set_cons_succ]
          refine wpAnyH_take (i := 15) (oi := { dst := some 33, op := Go.Op.load 3 (Go.Operand.tmp 32), type := 3, pos := "ref.go:17", after := #[{ on := 14, ground := Go.Ground.data }, { on := 10, ground := Go.Ground.guard }], guard := some (10, true) }) (v := undef) rfl (by kernel_rfl) (by kernel_rfl) (by kernel_rfl) (fun _ _ _ h => h) (Or.inr ⟨by kernel_rfl, rfl⟩) (⟨keepA (keepD c0), keepA (keepD c1)⟩) ?_
          try simp only [Act.put, List.setIfInBounds_toArray, List.set_cons_zero, List.set_cons_succ]
          refine wpAnyH_take (i := 16) (oi := { dst := some 34, op := Go.Op.move (Go.Operand.tmp 1), type := 22, pos := "ref.go:17", after := #[{ on := 10, ground := Go.Ground.guard }], guard := some (10, true) }) (v := undef) rfl (by kernel_rfl) (by kernel_rfl) (by kernel_rfl) (fun _ _ _ h => h) (Or.inr ⟨by kernel_rfl, rfl⟩) (⟨keepA (keepD c0), keepA (keepD c1)⟩) ?_
          try simp only [Act.put, List.setIfInBounds_toArray, List.set_cons_zero, List.set_cons_succ]
          refine wpAnyH_take (i := 17) (oi := { dst := some 35, op := Go.Op.move (Go.Operand.tmp 5), type := 3, pos := "ref.go:17", after := #[{ on := 10, ground := Go.Ground.guard }], guard := some (10, true) }) (v := undef) rfl (by kernel_rfl) (by kernel_rfl) (by kernel_rfl) (fun _ _ _ h => h) (Or.inr ⟨by kernel_rfl, rfl⟩) (⟨keepA (keepD c0), keepA (keepD c1)⟩) ?_
          try simp only [Act.put, List.setIfInBounds_toArray, List.set_cons_zero, List.set_cons_succ]
          refine wpAnyH_take (i := 18) (oi := { dst := some 36, op := Go.Op.binOp Go.BinOp.sub 3 (Go.Operand.tmp 35) (Go.Operand.const (Go.Value.int Go.IntKind.i64 1)) 3, type := 3, pos := "ref.go:17", after := #[{ on := 17, ground := Go.Ground.data }, { on := 10, ground := Go.Ground.guard }], guard := some (10, true) }) (v := undef) rfl (by kernel_rfl) (by kernel_rfl) (by kernel_rfl) (fun _ _ _ h => h) (Or.inr ⟨by kernel_rfl, rfl⟩) (⟨keepA (keepD c0), keepA (keepD c1)⟩) ?_
          try simp only [Act.put, List.setIfInBounds_toArray, List.set_cons_zero, List.set_cons_succ]
          refine wpAnyH_take (i := 19) (oi := { dst := some 37, op := Go.Op.indexAddr 22 (Go.Operand.tmp 34) (Go.Operand.tmp 36), type := 0, pos := "ref.go:17", after := #[{ on := 16, ground := Go.Ground.data }, { on := 18, ground := Go.Ground.data }, { on := 10, ground := Go.Ground.guard }], guard := some (10, true) }) (v := undef) rfl (by kernel_rfl) (by kernel_rfl) (by kernel_rfl) (fun _ _ _ h => h) (Or.inr ⟨by kernel_rfl, rfl⟩) (⟨keepA (keepD c0), keepA (keepD c1)⟩) ?_
          try simp only [Act.put, List.setIfInBounds_toArray, List.set_cons_zero, List.set_cons_succ]
          refine wpAnyH_take (i := 20) (oi := { dst := some 38, op := Go.Op.fieldAddr 25 (Go.Operand.tmp 37) 0, type := 0, pos := "ref.go:17", after := #[{ on := 19, ground := Go.Ground.data }, { on := 10, ground := Go.Ground.guard }], guard := some (10, true) }) (v := undef) rfl (by kernel_rfl) (by kernel_rfl) (by kernel_rfl) (fun _ _ _ h => h) (Or.inr ⟨by kernel_rfl, rfl⟩) (⟨keepA (keepD c0), keepA (keepD c1)⟩) ?_
          try simp only [Act.put, List.setIfInBounds_toArray, List.set_cons_zero, List.set_cons_succ]
          refine wpAnyH_take (i := 21) (oi := { dst := some 39, op := Go.Op.load 3 (Go.Operand.tmp 38), type := 3, pos := "ref.go:17", after := #[{ on := 20, ground := Go.Ground.data }, { on := 10, ground := Go.Ground.guard }], guard := some (10, true) }) (v := undef) rfl (by kernel_rfl) (by kernel_rfl) (by kernel_rfl) (fun _ _ _ h => h) (Or.inr ⟨by kernel_rfl, rfl⟩) (⟨keepA (keepD c0), keepA (keepD c1)⟩) ?_
          try simp only [Act.put, List.setIfInBounds_toArray, List.set_cons_zero, List.set_cons_succ]
          refine wpAnyH_take (i := 22) (oi := { dst := some 40, op := Go.Op.move (Go.Operand.tmp 1), type := 22, pos := "ref.go:17", after := #[{ on := 10, ground := Go.Ground.guard }], guard := some (10, true) }) (v := undef) rfl (by kernel_rfl) (by kernel_rfl) (by kernel_rfl) (fun _ _ _ h => h) (Or.inr ⟨by kernel_rfl, rfl⟩) (⟨keepA (keepD c0), keepA (keepD c1)⟩) ?_
          try simp only [Act.put, List.setIfInBounds_toArray, List.set_cons_zero, List.set_cons_succ]
          refine wpAnyH_take (i := 23) (oi := { dst := some 41, op := Go.Op.move (Go.Operand.tmp 5), type := 3, pos := "ref.go:17", after := #[{ on := 10, ground := Go.Ground.guard }], guard := some (10, true) }) (v := undef) rfl (by kernel_rfl) (by kernel_rfl) (by kernel_rfl) (fun _ _ _ h => h) (Or.inr ⟨by kernel_rfl, rfl⟩) (⟨keepA (keepD c0), keepA (keepD c1)⟩) ?_
          try simp only [Act.put, List.setIfInBounds_toArray, List.set_cons_zero, List.set_cons_succ]
          refine wpAnyH_take (i := 24) (oi := { dst := some 42, op := Go.Op.binOp Go.BinOp.sub 3 (Go.Operand.tmp 41) (Go.Operand.const (Go.Value.int Go.IntKind.i64 1)) 3, type := 3, pos := "ref.go:17", after := #[{ on := 23, ground := Go.Ground.data }, { on := 10, ground := Go.Ground.guard }], guard := some (10, true) }) (v := undef) rfl (by kernel_rfl) (by kernel_rfl) (by kernel_rfl) (fun _ _ _ h => h) (Or.inr ⟨by kernel_rfl, rfl⟩) (⟨keepA (keepD c0), keepA (keepD c1)⟩) ?_
          try simp only [Act.put, List.setIfInBounds_toArray, List.set_cons_zero, List.set_cons_succ]
          refine wpAnyH_take (i := 25) (oi := { dst := some 43, op := Go.Op.indexAddr 22 (Go.Operand.tmp 40) (Go.Operand.tmp 42), type := 0, pos := "ref.go:17", after := #[{ on := 22, ground := Go.Ground.data }, { on := 24, ground := Go.Ground.data }, { on := 10, ground := Go.Ground.guard }], guard := some (10, true) }) (v := undef) rfl (by kernel_rfl) (by kernel_rfl) (by kernel_rfl) (fun _ _ _ h => h) (Or.inr ⟨by kernel_rfl, rfl⟩) (⟨keepA (keepD c0), keepA (keepD c1)⟩) ?_
          try simp only [Act.put, List.setIfInBounds_toArray, List.set_cons_zero, List.set_cons_succ]
          refine wpAnyH_take (i := 26) (oi := { dst := some 44, op := Go.Op.fieldAddr 25 (Go.Operand.tmp 43) 1, type := 0, pos := "ref.go:17", after := #[{ on := 25, ground := Go.Ground.data }, { on := 10, ground := Go.Ground.guard }], guard := some (10, true) }) (v := undef) rfl (by kernel_rfl) (by kernel_rfl) (by kernel_rfl) (fun _ _ _ h => h) (Or.inr ⟨by kernel_rfl, rfl⟩) (⟨keepA (keepD c0), keepA (keepD c1)⟩) ?_
          try simp only [Act.put, List.setIfInBounds_toArray, List.set_cons_zero, List.set_cons_succ]
          refine wpAnyH_take (i := 27) (oi := { dst := some 45, op := Go.Op.load 3 (Go.Operand.tmp 44), type := 3, pos := "ref.go:17", after := #[{ on := 26, ground := Go.Ground.data }, { on := 10, ground := Go.Ground.guard }], guard := some (10, true) }) (v := undef) rfl (by kernel_rfl) (by kernel_rfl) (by kernel_rfl) (fun _ _ _ h => h) (Or.inr ⟨by kernel_rfl, rfl⟩) (⟨keepA (keepD c0), keepA (keepD c1)⟩) ?_
          try simp only [Act.put, List.setIfInBounds_toArray, List.set_cons_zero, List.set_cons_succ]
          refine wpAnyH_take (i := 28) (oi := { dst := some 46, op := Go.Op.binOp Go.BinOp.add 3 (Go.Operand.tmp 39) (Go.Operand.tmp 45) 3, type := 3, pos := "ref.go:17", after := #[{ on := 21, ground := Go.Ground.data }, { on := 27, ground := Go.Ground.data }, { on := 10, ground := Go.Ground.guard }], guard := some (10, true) }) (v := undef) rfl (by kernel_rfl) (by kernel_rfl) (by kernel_rfl) (fun _ _ _ h => h) (Or.inr ⟨by kernel_rfl, rfl⟩) (⟨keepA (keepD c0), keepA (keepD c1)⟩) ?_
          try simp only [Act.put, List.setIfInBounds_toArray, List.set_cons_zero, List.set_cons_succ]
          refine wpAnyH_take (i := 29) (oi := { dst := some 47, op := Go.Op.binOp Go.BinOp.leq 3 (Go.Operand.tmp 33) (Go.Operand.tmp 46) 3, type := 4, pos := "ref.go:17", after := #[{ on := 15, ground := Go.Ground.data }, { on := 28, ground := Go.Ground.data }, { on := 10, ground := Go.Ground.guard }], guard := some (10, true) }) (v := undef) rfl (by kernel_rfl) (by kernel_rfl) (by kernel_rfl) (fun _ _ _ h => h) (Or.inr ⟨by kernel_rfl, rfl⟩) (⟨keepA (keepD c0), keepA (keepD c1)⟩) ?_
          try simp only [Act.put, List.setIfInBounds_toArray, List.set_cons_zero, List.set_cons_succ]
          refine wpAnyH_take (i := 30) (oi := { dst := some 48, op := Go.Op.pick (Go.Operand.tmp 28) (Go.Operand.tmp 47) (Go.Operand.const (Go.Value.bool false)), type := 4, pos := "ref.go:17", after := #[{ on := 10, ground := Go.Ground.data }, { on := 29, ground := Go.Ground.data }, { on := 7, ground := Go.Ground.guard }], guard := some (7, false) }) (v := undef) rfl (by kernel_rfl) (by kernel_rfl) (by kernel_rfl) (fun _ _ _ h => h) (Or.inr ⟨by kernel_rfl, rfl⟩) (⟨keepA (keepD c0), keepA (keepD c1)⟩) ?_
          try simp only [Act.put, List.setIfInBounds_toArray, List.set_cons_zero, List.set_cons_succ]
          refine wpAnyH_take (i := 31) (oi := { dst := some 49, op := Go.Op.pick (Go.Operand.tmp 25) (Go.Operand.const (Go.Value.bool true)) (Go.Operand.tmp 48), type := 4, pos := "ref.go:17", after := #[{ on := 7, ground := Go.Ground.data }, { on := 30, ground := Go.Ground.data }], guard := none }) (v := .bool true) rfl (by kernel_rfl) (by kernel_rfl) (by kernel_rfl) (fun _ _ _ h => h) (Or.inl ⟨by kernel_rfl, ?_⟩) (⟨keepA (keepD c0), keepA (keepD c1)⟩) ?_
          · intro W hSw
            go_simp
          try simp only [Act.put, List.setIfInBounds_toArray, List.set_cons_zero, List.set_cons_succ]
          refine wpAnyH_done (by kernel_rfl) ?_ _
          refine NoPanic.normal ?_
          go_wp2
          go_ret
          have e := HT.out
          rw [check_no ⟨h1, h2⟩ (Hnot.out (fun h => hlies h.1))] at e
          subst e
          exact ⟨rfl, by
              repeat first | exact hbel | refine Below.drew ?_ | refine Below.alloc ?_ (by first | exact hsr | (simp; omega)) _⟩
      · have e := HT.out
        rw [check_yes ⟨h1, h2⟩ (hok.all (by omega))] at e
        subst e
        go_wp2
        go_ret
        exact ⟨rfl, hbel⟩
end Go.Proofs.Ytglbcejcibohpaa
