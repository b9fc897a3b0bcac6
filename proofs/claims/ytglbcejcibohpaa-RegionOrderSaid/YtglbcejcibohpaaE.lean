import Derived.Test.YtglbcejcibohpaaD
/-! Has, All, Greatest. -/
namespace Go.Proofs.Ytglbcejcibohpaa
open Go.RowKit
set_option linter.unusedVariables false
set_option linter.unusedSimpArgs false
def hasB (l : List Ext) (a n : Int) : Bool := decide (freeE 4096 l ∧ liesE 4096 (a, n) ∧ hasE l (a, n))
def NotTo (l : List Ext) (e : Ext) (k : Nat) : Prop := ∀ j (h : j < l.length), j < k → ¬ holdsE l[j] e
theorem NotTo.next {l : List Ext} {e : Ext} {k : Nat} (h : NotTo l e k) (hk : k < l.length) (h1 : ¬ holdsE l[k] e) : NotTo l e (k + 1) := fun j hj hjk => by
  rcases Nat.eq_or_lt_of_le (Nat.le_of_lt_succ hjk) with rfl | h'
  · exact h1
  · exact h j hj h'
theorem NotTo.all {l : List Ext} {e : Ext} {k : Nat} (h : NotTo l e k) (hk : l.length ≤ k) : ¬ hasE l e := by
  rintro ⟨x, hx, hh⟩
  obtain ⟨j, hj, rfl⟩ := List.getElem_of_mem hx
  exact h j hj (by omega) hh
theorem has_no1 {l : List Ext} {a n : Int} (h : ¬ freeE 4096 l) : hasB l a n = false := decide_eq_false (fun hh => h hh.1)
theorem has_no2 {l : List Ext} {a n : Int} (h : ¬ liesE 4096 (a, n)) : hasB l a n = false := decide_eq_false (fun hh => h hh.2.1)
theorem has_no3 {l : List Ext} {a n : Int} (h : ¬ hasE l (a, n)) : hasB l a n = false := decide_eq_false (fun hh => h hh.2.2)
theorem has_yes {l : List Ext} {a n : Int} (h1 : freeE 4096 l) (h2 : liesE 4096 (a, n)) (h3 : hasE l (a, n)) : hasB l a n = true := decide_eq_true ⟨h1, h2, h3⟩
set_option maxRecDepth 100000 in
set_option maxHeartbeats 4000000 in
theorem has_any (l : List Ext) (A : Option Addr) (cap : Nat) (a n : Int) (w : World) (hr : RdE w A l) (hl : l.length ≤ cap) (ha : I64 a) (hn : I64 n) :
    Calls Try.prog 25 #[.slice A l.length cap, eV a n] w fun e w' => e = .returned (.bool (hasB l a n)) ∧ Below w.heap.size w w' := by
  have hm := hr.1
  have b0 : Below w.heap.size w (w.alloc (eO a n)) := (Below.refl _ _).alloc (Nat.le_refl _) _
  have hr0 := hr.below b0
  have FR := free_any 4096 i4096 l A cap (w.alloc (eO a n)) hr0 hl
  have LI := fun w => lies_any 4096 a n w i4096 ha hn
  have HR := Lib.hid hr
  have K0 := cell_new w #[.int .i64 a, .int .i64 n] 25 (0, 0) 0 _ rfl
  have K1 := cell_new w #[.int .i64 a, .int .i64 n] 25 (0, 0) 1 _ rfl
  replace K0 := Lib.hid K0
  replace K1 := Lib.hid K1
  clear hr hr0 ha hn
  by_cases hf : freeE 4096 l
  · rw [show freeB 4096 l = true from decide_eq_true hf] at FR
    replace FR := Lib.hid FR
    have HF := Lib.hid hf
    clear hf
    by_cases hlies : 0 ≤ a ∧ 1 ≤ n ∧ a + n ≤ 4096
    · replace LI : Hid (∀ w : World, Calls Try.prog 33 #[.int .i64 4096, eV a n] w fun e w' => e = .returned (.bool true) ∧ w.alloc (eO a n) = w') := fun w => by have := LI w; rw [lies_yes hlies] at this; exact this
      have HL := Lib.hid hlies
      obtain ⟨q1, q2, q3⟩ := hlies
      obtain ⟨T, hT⟩ : ∃ T, hasB l a n = T := ⟨_, rfl⟩
      rw [hT]
      have HT := Lib.hid hT
      clear hT
      go_enter Try.func25, Try.ntmps25
      go_wp2_with (first | (go_at_call 36; refine FR.out.mono ?_; rintro e w1 ⟨rfl, b1⟩; have k0 : w1.cell? ⟨w.heap.size, 0, none⟩ = some (.int .i64 a) := (b1.cell (p := ⟨w.heap.size, 0, none⟩) (by simp)).trans K0.out; have k1 : w1.cell? ⟨w.heap.size, 1, none⟩ = some (.int .i64 n) := (b1.cell (p := ⟨w.heap.size, 1, none⟩) (by simp)).trans K1.out; have b01 : Below w.heap.size w w1 := b0.trans (b1.mono (by simp)); have z1 : w.heap.size < w1.heap.size := World.block_lt_of_cell? w1 _ k0; clear b1) | (go_at_call 33; refine (LI.out _).mono ?_; rintro e w' ⟨rfl, rfl⟩) | fail)
      have b02 : Below w.heap.size w (w1.alloc (eO a n)) := b01.alloc b01.size _
      have k0' := cell_old (eO a n) k0
      have k1' := cell_old (eO a n) k1
      obtain ⟨W2, hW2⟩ : ∃ W, w1.alloc (eO a n) = W := ⟨_, rfl⟩
      rw [hW2] at b02 k0' k1'
      first | rw [hW2] | skip
      clear hW2 k0 k1 b01 z1
      have HK0 := Lib.hid k0'
      have HK1 := Lib.hid k1'
      clear k0' k1'
      go_loopw [17] (fun i wr => ∃ k : Nat, k ≤ l.length ∧ i = .int .i64 k ∧ NotTo l (a, n) k ∧ wr.cell? ⟨w.heap.size, 0, none⟩ = some (.int .i64 a) ∧ wr.cell? ⟨w.heap.size, 1, none⟩ = some (.int .i64 n) ∧ Below w.heap.size w wr) (fun i _ => l.length - (intOf i).toNat)
      case atStart => exact ⟨0, Nat.zero_le _, rfl, fun j _ h => by omega, HK0.out, HK1.out, b02⟩
      case round =>
        obtain ⟨k, hk, rfl, hnot, k0, k1, hbel⟩ := hrel
        have hsr := hbel.size
        have z1 : w.heap.size < wr.heap.size := World.block_lt_of_cell? wr _ k0
        by_cases hlt : k < l.length
        · obtain ⟨ad, hAd, c0, c1, i1, i2⟩ := (HR.out.below hbel).2 k hlt
          subst hAd
          have hlie := (freeF_lies HF.out _ (List.getElem_mem hlt)).1
          have hmem := List.getElem_mem hlt
          have Hn := Lib.hid (fun (h : ¬ holdsE l[k] (a, n)) => NotTo.next hnot hlt h)
          have Hy := Lib.hid (fun (h : holdsE l[k] (a, n)) => has_yes HF.out HL.out ⟨l[k], hmem, h⟩)
          obtain ⟨⟨x, y⟩, ht⟩ : ∃ t, l[k] = t := ⟨_, rfl⟩
          rw [ht] at c0 c1 hlie Hn Hy
          unfold liesE at hlie
          simp only at c0 c1 hlie
          obtain ⟨p1, p2, p3⟩ := hlie
          have HO := holds_any x y a n
          have k0a := cell_old (eO x y) k0
          have k1a := cell_old (eO x y) k1
          have bx : Below w.heap.size w (((wr.alloc (eO x y)).alloc (eO x y)).alloc (eO a n)) := ((hbel.alloc hsr _).alloc (by simp; omega) _).alloc (by simp; omega) _
          have k0b := cell_old (eO a n) (cell_old (eO x y) k0a)
          have k1b := cell_old (eO a n) (cell_old (eO x y) k1a)
          replace k0b := Lib.hid k0b
          replace k1b := Lib.hid k1b
          have HO' : Hid (∀ w : World, Calls Try.prog 37 #[eV x y, eV a n] w fun e w' => e = .returned (.bool (holdsB x y a n)) ∧ (w.alloc (eO x y)).alloc (eO a n) = w') := fun w => HO w ⟨p1, by omega⟩ ⟨by omega, by omega⟩ ⟨q1, by omega⟩ ⟨by omega, by omega⟩
          clear ht i1 i2 hmem HO hnot
          by_cases hh : holdsE (x, y) (a, n)
          · have HOy : Hid (∀ w : World, Calls Try.prog 37 #[eV x y, eV a n] w fun e w' => e = .returned (.bool true) ∧ (w.alloc (eO x y)).alloc (eO a n) = w') := fun w => by have := HO'.out w; rw [show holdsB x y a n = true from decide_eq_true hh] at this; exact this
            have e := HT.out
            rw [Hy.out hh] at e
            subst e
            clear hh HO'
            go_wp2_with (first | (go_at_call 37; refine (HOy.out _).mono ?_; rintro e w' ⟨rfl, rfl⟩) | fail)
            go_ret
            exact ⟨rfl, bx⟩
          · have HOn : Hid (∀ w : World, Calls Try.prog 37 #[eV x y, eV a n] w fun e w' => e = .returned (.bool false) ∧ (w.alloc (eO x y)).alloc (eO a n) = w') := fun w => by have := HO'.out w; rw [show holdsB x y a n = false from decide_eq_false hh] at this; exact this
            have Hnn := Lib.hid (Hn.out hh)
            clear hh HO'
            go_wp2_with (first | (go_at_call 37; refine (HOn.out _).mono ?_; rintro e w' ⟨rfl, rfl⟩) | fail)
            go_roundw
            case rel => exact ⟨k + 1, by omega, by go_num, Hnn.out, k0b.out, k1b.out, bx⟩
            case measure => simp [intOf]; omega
        · have e := HT.out
          rw [has_no3 (hnot.all (by omega))] at e
          subst e
          go_wp2
          go_ret
          exact ⟨rfl, hbel⟩
    · replace LI : Hid (∀ w : World, Calls Try.prog 33 #[.int .i64 4096, eV a n] w fun e w' => e = .returned (.bool false) ∧ w.alloc (eO a n) = w') := fun w => by have := LI w; rw [lies_no hlies] at this; exact this
      rw [has_no2 hlies]
      clear hlies
      go_enter Try.func25, Try.ntmps25
      go_wp2_with (first | (go_at_call 36; refine FR.out.mono ?_; rintro e w1 ⟨rfl, b1⟩; have k0 : w1.cell? ⟨w.heap.size, 0, none⟩ = some (.int .i64 a) := (b1.cell (p := ⟨w.heap.size, 0, none⟩) (by simp)).trans K0.out; have k1 : w1.cell? ⟨w.heap.size, 1, none⟩ = some (.int .i64 n) := (b1.cell (p := ⟨w.heap.size, 1, none⟩) (by simp)).trans K1.out; have b01 : Below w.heap.size w w1 := b0.trans (b1.mono (by simp)); clear b1) | (go_at_call 33; refine (LI.out _).mono ?_; rintro e w' ⟨rfl, rfl⟩) | fail)
      go_ret
      exact ⟨rfl, b01.alloc b01.size _⟩
  · rw [show freeB 4096 l = false from decide_eq_false hf] at FR
    rw [has_no1 hf]
    replace FR := Lib.hid FR
    clear hf LI
    go_enter Try.func25, Try.ntmps25
    go_wp2_with (first | (go_at_call 36; refine FR.out.mono ?_; rintro e w1 ⟨rfl, b1⟩) | fail)
    go_ret
    exact ⟨rfl, b0.trans (b1.mono (by simp))⟩
set_option maxRecDepth 100000 in
set_option maxHeartbeats 4000000 in
theorem rhas_any (l : List Ext) (A : Option Addr) (cap : Nat) (a n : Int) (w : World) (hr : RdE w A l) (hl : l.length ≤ cap) (ha : I64 a) (hn : I64 n) :
    Calls Try.prog 17 #[.slice A l.length cap, eV a n] w fun e w' => e = .returned (.bool (hasB l a n)) ∧ Below w.heap.size w w' := by
  have hm := hr.1
  have b0 : Below w.heap.size w (w.alloc (eO a n)) := (Below.refl _ _).alloc (Nat.le_refl _) _
  have hr0 := hr.below b0
  have FR := rcheck_any 4096 l A cap (w.alloc (eO a n)) ⟨by omega, by omega⟩ hr0 hl
  have LI := fun w => rlies_any 4096 a n w i4096 ha hn
  have HR := Lib.hid hr
  have K0 := cell_new w #[.int .i64 a, .int .i64 n] 25 (0, 0) 0 _ rfl
  have K1 := cell_new w #[.int .i64 a, .int .i64 n] 25 (0, 0) 1 _ rfl
  replace K0 := Lib.hid K0
  replace K1 := Lib.hid K1
  clear hr hr0 ha hn
  by_cases hf : freeE 4096 l
  · rw [check_yes i4096 hf] at FR
    replace FR := Lib.hid FR
    have HF := Lib.hid hf
    clear hf
    by_cases hlies : 0 ≤ a ∧ 1 ≤ n ∧ a + n ≤ 4096
    · replace LI : Hid (∀ w : World, Calls Try.prog 32 #[.int .i64 4096, eV a n] w fun e w' => e = .returned (.bool true) ∧ w.alloc (eO a n) = w') := fun w => by have := LI w; rw [lies_yes hlies] at this; exact this
      have HL := Lib.hid hlies
      obtain ⟨q1, q2, q3⟩ := hlies
      obtain ⟨T, hT⟩ : ∃ T, hasB l a n = T := ⟨_, rfl⟩
      rw [hT]
      have HT := Lib.hid hT
      clear hT
      go_enter Try.func17, Try.ntmps17
      go_wp2_with (first | (go_at_call 15; refine FR.out.mono ?_; rintro e w1 ⟨rfl, b1⟩; have k0 : w1.cell? ⟨w.heap.size, 0, none⟩ = some (.int .i64 a) := (b1.cell (p := ⟨w.heap.size, 0, none⟩) (by simp)).trans K0.out; have k1 : w1.cell? ⟨w.heap.size, 1, none⟩ = some (.int .i64 n) := (b1.cell (p := ⟨w.heap.size, 1, none⟩) (by simp)).trans K1.out; have b01 : Below w.heap.size w w1 := b0.trans (b1.mono (by simp)); have z1 : w.heap.size < w1.heap.size := World.block_lt_of_cell? w1 _ k0; clear b1) | (go_at_call 32; refine (LI.out _).mono ?_; rintro e w' ⟨rfl, rfl⟩) | fail)
      have b02 : Below w.heap.size w (w1.alloc (eO a n)) := b01.alloc b01.size _
      have k0' := cell_old (eO a n) k0
      have k1' := cell_old (eO a n) k1
      obtain ⟨W2, hW2⟩ : ∃ W, w1.alloc (eO a n) = W := ⟨_, rfl⟩
      rw [hW2] at b02 k0' k1'
      first | rw [hW2] | skip
      clear hW2 k0 k1 b01 z1
      have HK0 := Lib.hid k0'
      have HK1 := Lib.hid k1'
      clear k0' k1'
      go_loopw [5] (fun i wr => ∃ k : Nat, k ≤ l.length ∧ i = .int .i64 k ∧ NotTo l (a, n) k ∧ Drawn W2 wr) (fun i _ => l.length - (intOf i).toNat)
      case atStart => exact ⟨0, Nat.zero_le _, rfl, fun j _ h => by omega, Drawn.refl _⟩
      case round =>
        obtain ⟨k, hk, rfl, hnot, hd⟩ := hrel
        have hbel : Below w.heap.size w wr := b02.trans (hd.below.mono b02.size)
        have k0 := hd.cell HK0.out
        have k1 := hd.cell HK1.out
        by_cases hlt : k < l.length
        · obtain ⟨ad, hAd, c0, c1, i1, i2⟩ := (HR.out.below hbel).2 k hlt
          subst hAd
          have hlie := (freeF_lies HF.out _ (List.getElem_mem hlt)).1
          have hmem := List.getElem_mem hlt
          have Hn := Lib.hid (fun (h : ¬ holdsE l[k] (a, n)) => NotTo.next hnot hlt h)
          have Hy := Lib.hid (fun (h : holdsE l[k] (a, n)) => has_yes HF.out HL.out ⟨l[k], hmem, h⟩)
          obtain ⟨⟨x, y⟩, ht⟩ : ∃ t, l[k] = t := ⟨_, rfl⟩
          rw [ht] at c0 c1 hlie Hn Hy
          unfold liesE at hlie
          simp only at c0 c1 hlie
          obtain ⟨p1, p2, p3⟩ := hlie
          have s1 : IntKind.i64.wrap (a + n) = a + n := IntWalk.i64_in _ (by omega)
          have s2 : IntKind.i64.wrap (x + y) = x + y := IntWalk.i64_in _ (by omega)
          clear ht i1 i2 hmem hnot
          by_cases h1 : x ≤ a
          · have e1 : decide (x ≤ a) = true := decide_eq_true h1
            by_cases h2 : a + n ≤ x + y
            · have e2 : decide (a + n ≤ x + y) = true := decide_eq_true h2
              have e := HT.out
              rw [Hy.out ⟨h1, h2⟩] at e
              subst e
              go_wp2
              go_quiet (fail)
              clear s1 s2 e1 e2
              go_wp2
              go_ret
              exact ⟨rfl, by repeat first | exact hbel | exact below_dr hbel _⟩
            · have e2 : decide (a + n ≤ x + y) = false := decide_eq_false h2
              have Hnn := Lib.hid (Hn.out (fun h => h2 h.2))
              go_wp2
              go_quiet (fail)
              clear s1 s2 e1 e2
              go_wp2
              go_roundw
              case rel => exact ⟨k + 1, by omega, by go_num, Hnn.out, by repeat first | exact hd | exact hd.drewN _⟩
              case measure => simp [intOf]; omega
          · have e1 : decide (x ≤ a) = false := decide_eq_false h1
            have Hnn := Lib.hid (Hn.out (fun h => h1 h.1))
            go_wp2
            go_quiet (fail)
            clear s1 s2 e1
            go_wp2
            go_roundw
            case rel => exact ⟨k + 1, by omega, by go_num, Hnn.out, by repeat first | exact hd | exact hd.drewN _⟩
            case measure => simp [intOf]; omega
        · have e := HT.out
          rw [has_no3 (hnot.all (by omega))] at e
          subst e
          go_wp2
          go_ret
          exact ⟨rfl, hbel⟩
    · replace LI : Hid (∀ w : World, Calls Try.prog 32 #[.int .i64 4096, eV a n] w fun e w' => e = .returned (.bool false) ∧ w.alloc (eO a n) = w') := fun w => by have := LI w; rw [lies_no hlies] at this; exact this
      rw [has_no2 hlies]
      clear hlies
      go_enter Try.func17, Try.ntmps17
      go_wp2_with (first | (go_at_call 15; refine FR.out.mono ?_; rintro e w1 ⟨rfl, b1⟩; have k0 : w1.cell? ⟨w.heap.size, 0, none⟩ = some (.int .i64 a) := (b1.cell (p := ⟨w.heap.size, 0, none⟩) (by simp)).trans K0.out; have k1 : w1.cell? ⟨w.heap.size, 1, none⟩ = some (.int .i64 n) := (b1.cell (p := ⟨w.heap.size, 1, none⟩) (by simp)).trans K1.out; have b01 : Below w.heap.size w w1 := b0.trans (b1.mono (by simp)); clear b1) | (go_at_call 32; refine (LI.out _).mono ?_; rintro e w' ⟨rfl, rfl⟩) | fail)
      go_ret
      exact ⟨rfl, b01.alloc b01.size _⟩
  · rw [check_no i4096 hf] at FR
    rw [has_no1 hf]
    replace FR := Lib.hid FR
    clear hf LI
    go_enter Try.func17, Try.ntmps17
    go_wp2_with (first | (go_at_call 15; refine FR.out.mono ?_; rintro e w1 ⟨rfl, b1⟩) | fail)
    go_ret
    exact ⟨rfl, b0.trans (b1.mono (by simp))⟩
end Go.Proofs.Ytglbcejcibohpaa
