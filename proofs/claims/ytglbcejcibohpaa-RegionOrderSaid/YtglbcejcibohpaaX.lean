import Derived.Test.YtglbcejcibohpaaV
/-! The document's Give, Other. -/
namespace Go.Proofs.Ytglbcejcibohpaa
open Go.RowKit
set_option linter.unusedVariables false
set_option linter.unusedSimpArgs false
theorem bits_get (n : Nat) (l : List Ext) (k : Nat) (h : k < (bitsT n l).length) : (bitsT n l)[k] = memB l (k : Int) := by
  have h1 := bitsT_at n l k (by rw [bitsT_len] at h; exact h)
  rw [List.getElem?_eq_getElem h] at h1
  exact Option.some.inj h1
theorem give_row {n : Nat} {l : List Ext} {e : Ext} (h : freeE n l) (he : liesE n e) (hh : ¬ hitsE l e) : rowE (turnB (bitsT n l) e.1 e.2 true) = giveF e false l := by
  obtain ⟨h1, h2⟩ := give_free' h he hh
  refine row_of n _ _ h1 (by rw [turnB_len, bitsT_len]) fun k hk => ?_
  have hk' : k < (bitsT n l).length := by rw [bitsT_len]; exact hk
  rw [turnB_at _ _ _ _ _ hk', bits_get]
  congr 1
  have hm := h2 (k : Int)
  by_cases h3 : e.1 ≤ (k : Int) ∧ (k : Int) < e.1 + e.2
  · rw [if_pos h3, memB_true (hm.2 (Or.inr h3))]
  · rw [if_neg h3]
    apply bool_eq
    rw [memB_iff, memB_iff, hm]
    exact ⟨Or.inl, fun h4 => h4.elim id (fun h5 => absurd h5 h3)⟩
def NoBit (l : List Ext) (a : Nat) (k : Nat) : Prop := ∀ j, j < k → memB l ((a + j : Nat) : Int) = false
theorem NoBit.next {l : List Ext} {a k : Nat} (h : NoBit l a k) (h1 : memB l ((a + k : Nat) : Int) = false) : NoBit l a (k + 1) := fun j hj => by
  rcases Nat.eq_or_lt_of_le (Nat.le_of_lt_succ hj) with rfl | h'
  · exact h1
  · exact h j h'
theorem NoBit.all {n : Nat} {l : List Ext} {a m : Nat} (h : NoBit l a m) (hf : freeE n l) (hm : 1 ≤ m) : ¬ hitsE l ((a : Int), (m : Int)) := fun hh => by
  obtain ⟨k, ⟨h1, h2⟩, h3⟩ := (hits_iff hf (by simp only; omega)).1 hh
  simp only at h1 h2
  have h4 := h (k - a).toNat (by omega)
  rw [show ((a + (k - a).toNat : Nat) : Int) = k by omega, memB_true h3] at h4
  cases h4
theorem hit_bit {n : Nat} {l : List Ext} {a m k : Nat} (hf : freeE n l) (hk : k < m) (h : memB l ((a + k : Nat) : Int) = true) : hitsE l ((a : Int), (m : Int)) :=
  (hits_iff hf (by simp only; omega)).2 ⟨((a + k : Nat) : Int), ⟨by simp only; omega, by simp only; omega⟩, (memB_iff _ _).1 h⟩
/-- The first bits turned about. -/
def flipB (f : List Bool) (k : Nat) : List Bool := f.mapIdx fun i x => if i < k then !x else x
theorem flipB_len (f : List Bool) (k : Nat) : (flipB f k).length = f.length := by simp [flipB]
theorem flipB_at (f : List Bool) (k i : Nat) (h : i < f.length) : (flipB f k)[i]? = some (if i < k then !f[i] else f[i]) := by simp [flipB, h]
theorem flipB_zero (f : List Bool) : flipB f 0 = f := by
  apply List.ext_getElem?
  intro i
  rcases Nat.lt_or_ge i f.length with h | h
  · rw [flipB_at _ _ _ h, if_neg (by omega), List.getElem?_eq_getElem h]
  · rw [List.getElem?_eq_none h, List.getElem?_eq_none (by rw [flipB_len]; exact h)]
theorem flipB_next (f : List Bool) (k : Nat) (hk : k < f.length) : (flipB f k).set k (!f[k]) = flipB f (k + 1) := by
  apply List.ext_getElem?
  intro i
  rw [List.getElem?_set]
  rcases Nat.lt_or_ge i f.length with h | h
  · rw [flipB_at _ _ _ h, flipB_at _ _ _ h, flipB_len]
    by_cases he : k = i
    · subst he
      rw [if_pos rfl, if_pos h, if_pos (by omega)]
    · rw [if_neg he]
      congr 1
      by_cases h1 : i < k
      · rw [if_pos h1, if_pos (by omega)]
      · rw [if_neg h1, if_neg (by omega)]
  · rw [List.getElem?_eq_none (by rw [flipB_len]; exact h), List.getElem?_eq_none (by rw [flipB_len]; exact h), if_neg (by omega)]
theorem other_row {n : Nat} {l : List Ext} (h : freeE n l) : rowE (flipB (bitsT n l) n) = otherF n 0 l := by
  obtain ⟨h1, h2⟩ := other_ok (by omega) h
  refine row_of n _ _ h1 (by rw [flipB_len, bitsT_len]) fun k hk => ?_
  have hk' : k < (bitsT n l).length := by rw [bitsT_len]; exact hk
  rw [flipB_at _ _ _ hk', if_pos hk, bits_get]
  congr 1
  have hm := h2 (k : Int)
  by_cases h3 : memE l (k : Int)
  · rw [memB_true h3, memB_false (fun h4 => (hm.1 h4).2.2 h3)]
    rfl
  · rw [memB_false h3, memB_true (hm.2 ⟨by omega, by omega, h3⟩)]
    rfl
set_option maxRecDepth 100000 in
set_option maxHeartbeats 4000000 in
theorem rgive_any (b : Int) (l : List Ext) (A : Option Addr) (cap : Nat) (a n : Int) (w : World) (hb : I64 b) (ha : I64 a) (hn : I64 n) (hr : RdE w A l) (hl : l.length ≤ cap) :
    Calls Try.prog 29 #[.int .i64 b, .slice A l.length cap, eV a n] w fun e w' => ∃ v, e = .returned (.tuple #[v, .int .i64 (giveC b l (a, n)).2]) ∧ w'.ownsRow w.heap.size 25 2 v (giveC b l (a, n)).1.length (extsV (giveC b l (a, n)).1) ∧ Below w.heap.size w w' := by
  have b0 : Below w.heap.size w (w.alloc (eO a n)) := (Below.refl _ _).alloc (Nat.le_refl _) _
  have CK := rcheck_any b l A cap (w.alloc (eO a n)) hb (hr.below b0) hl
  have HR := Lib.hid hr
  have hm := hr.1
  have R0 := Lib.hid (heap_new w (eO a n) w.heap.size rfl)
  clear hr
  by_cases hc : checkE b l = 0
  · have hb' := (check_zero hc).1
    have hf := (check_zero hc).2
    rw [hc] at CK
    have HF := Lib.hid hf
    have LI := fun w => rlies_any b a n w hb' ha hn
    replace CK := Lib.hid CK
    by_cases hlies : liesE b (a, n)
    · have hlies' := hlies
      unfold liesE at hlies'
      simp only at hlies'
      replace LI : Hid (∀ w : World, Calls Try.prog 32 #[.int .i64 b, eV a n] w fun e w' => e = .returned (.bool true) ∧ w.alloc (eO a n) = w') := fun w => by have := LI w; rw [lies_yes hlies'] at this; exact this
      obtain ⟨q1, q2, q3⟩ := hlies'
      have b1 := hb'.1
      have b2 := hb'.2
      obtain ⟨N, rfl⟩ := Int.eq_ofNat_of_zero_le b1
      obtain ⟨a, rfl⟩ := Int.eq_ofNat_of_zero_le q1
      obtain ⟨n, rfl⟩ := Int.eq_ofNat_of_zero_le (show 0 ≤ n by omega)
      obtain ⟨⟨R, c⟩, hC⟩ : ∃ C, giveC N l (a, n) = C := ⟨_, rfl⟩
      have eC : giveC N l (a, n) = if hitsE l ((a : Int), (n : Int)) then ([], 102) else (giveF (a, n) false l, 0) := by unfold giveC; rw [if_pos hc, if_pos hlies]
      rw [hC] at eC ⊢
      simp only
      have HC := Lib.hid eC.symm
      have HL := Lib.hid hlies
      have BI := Lib.hid (fun w' (h : Below w.heap.size w w') => bits_any N l A cap w' (by omega) HF.out (HR.out.below h) hl)
      clear hC eC hlies hc hf hb'
      go_enter Try.func29, Try.ntmps29
      go_upto_region 7 with (first | (go_at_call 15; refine CK.out.mono ?_; rintro e w1 ⟨rfl, bb⟩; have r0 := keepH bb R0.out; have k0 : w1.cell? ⟨w.heap.size, 0, none⟩ = some (.int .i64 a) := (by rw [Joins.cell_of_block r0]; rfl); have k1 : w1.cell? ⟨w.heap.size, 1, none⟩ = some (.int .i64 n) := (by rw [Joins.cell_of_block r0]; rfl); have k0' := cell_old (eO a n) k0; have k1' := cell_old (eO a n) k1; have r1 := Lib.hid (heap_old (eO a n) trivial r0); have b01 : Below w.heap.size w (w1.alloc (eO a n)) := (b0.trans (bb.mono (by simp))).alloc (b0.trans (bb.mono (by simp))).size _; clear bb r0) | (go_at_call 32; refine (LI.out _).mono ?_; rintro e w' ⟨rfl, rfl⟩) | (go_at_call 40; refine (BI.out _ b01).mono ?_; rintro e w' ⟨rfl, rfl⟩) | fail)
      clear CK LI BI
      have hg := Lib.hid (heap_new (w1.alloc (eO a n)) (.cells (bv (bitsT N l)) 4) (w1.heap.size + 1) (by simp))
      have r2 := Lib.hid (heap_old (.cells (bv (bitsT N l)) 4) trivial r1.out)
      have b02 : Below w.heap.size w ((w1.alloc (eO a n)).alloc (.cells (bv (bitsT N l)) 4)) := b01.alloc b01.size _
      have z1 : w.heap.size < w1.heap.size := World.block_lt_of_cell? w1 _ k0
      obtain ⟨W, hW⟩ : ∃ W, (w1.alloc (eO a n)).alloc (.cells (bv (bitsT N l)) 4) = W := ⟨_, rfl⟩
      rw [hW] at hg r2 b02
      first | rw [hW] | skip
      have hXl := bitsT_len N l
      have k0'' : W.cell? ⟨w.heap.size, 0, none⟩ = some (.int .i64 a) := by rw [Joins.cell_of_block r2.out]; rfl
      have k1'' : W.cell? ⟨w.heap.size, 1, none⟩ = some (.int .i64 n) := by rw [Joins.cell_of_block r2.out]; rfl
      clear hW k0 k1 k0' k1' b01
      go_wp2
      go_loopw [10] (fun kv wr => ∃ k : Nat, k ≤ n ∧ kv = .int .i64 k ∧ NoBit l a k ∧ wr = W) (fun kv _ => n - (intOf kv).toNat)
      case atStart => exact ⟨0, Nat.zero_le _, rfl, fun j h => by omega, rfl⟩
      case round =>
        obtain ⟨k, hk, rfl, hno, rfl⟩ := hrel
        by_cases hlk : k < n
        · have hin : a + k < (bitsT N l).length := by rw [hXl]; omega
          have hz : (bv (bitsT N l))[a + k]? = some (.bool (memB l ((a + k : Nat) : Int))) := by rw [bv_at _ _ hin, bits_get]
          have hcell : wr.cell? ⟨w1.heap.size + 1, a + k, none⟩ = some (.bool (memB l ((a + k : Nat) : Int))) := by rw [Joins.cell_of_block hg.out]; exact hz
          have s1 : IntKind.i64.wrap ((a : Int) + (k : Int)) = (a : Int) + (k : Int) := IntWalk.i64_in _ (by omega)
          have s2 : ((a : Int) + (k : Int)).toNat = a + k := by omega
          have Hn := Lib.hid (fun (h : memB l ((a + k : Nat) : Int) = false) => NoBit.next hno h)
          have Hy := Lib.hid (fun (h : memB l ((a + k : Nat) : Int) = true) => hit_bit HF.out hlk h)
          cases hbit : memB l ((a + k : Nat) : Int) with
          | true =>
            have eC := HC.out
            rw [if_pos (Hy.out hbit)] at eC
            simp only [Prod.mk.injEq] at eC
            obtain ⟨rfl, rfl⟩ := eC
            rw [hbit] at hcell
            clear hz hbit hin hno
            go_wp2
            go_ret2
            exact ⟨_, rfl, World.ownsRow_nil _ _ _ _, b02⟩
          | false =>
            have HNN := Lib.hid (Hn.out hbit)
            rw [hbit] at hcell
            clear hz hbit hin hno Hn Hy
            go_wp2
            clear s1 s2
            go_roundw
            case rel => exact ⟨k + 1, by omega, by go_num, HNN.out, by first | trivial | rfl⟩
            case measure => simp [intOf]; omega
        · obtain rfl : k = n := by omega
          have hnh := hno.all HF.out (by omega)
          have eC := HC.out
          rw [if_neg hnh] at eC
          simp only [Prod.mk.injEq] at eC
          obtain ⟨hR, rfl⟩ := eC
          have hrow := give_row HF.out HL.out hnh
          simp only at hrow
          have hrow' := hrow.trans hR
          have TU := Lib.hid (turn_any (bitsT N l) (w1.heap.size + 1) N a k true wr hXl (by omega) q1 (by omega) q3 hg.out)
          have RO := Lib.hid (fun w' (h : w'.heap[w1.heap.size + 1]? = some (.cells (bv (turnB (bitsT N l) a k true)) 4)) => row_any (turnB (bitsT N l) a k true) (w1.heap.size + 1) N w' (by rw [turnB_len]; exact hXl) (by omega) h)
          rw [hrow'] at RO
          clear hnh hrow hrow' hR hno
          go_wp2_with (first | (go_at_call 39; refine TU.out.mono ?_; rintro e w4 ⟨rfl, hh4, bs⟩) | (go_at_call 38; refine (RO.out _ hh4).mono ?_; rintro e w5 ⟨v, rfl, hv, b45⟩; have HV := Lib.hid hv; clear hv) | fail)
          go_ret2
          have hs := b02.size
          have bz : Below w.heap.size w w4 := Bes.below b02 bs (by omega) (by omega) b02.size
          exact ⟨_, rfl, own_up HV.out bz.size, bz.trans (b45.mono bz.size)⟩
    · replace LI : Hid (∀ w : World, Calls Try.prog 32 #[.int .i64 b, eV a n] w fun e w' => e = .returned (.bool false) ∧ w.alloc (eO a n) = w') := fun w => by have := LI w; rw [lies_no hlies] at this; exact this
      have eC : giveC b l (a, n) = ([], 100) := by unfold giveC; rw [if_pos hc, if_neg hlies]
      rw [eC]
      simp only
      clear eC hlies hc hf
      go_enter Try.func29, Try.ntmps29
      go_wp2_with (first | (go_at_call 15; refine CK.out.mono ?_; rintro e w1 ⟨rfl, bb⟩; have r0 := keepH bb R0.out; have k0 : w1.cell? ⟨w.heap.size, 0, none⟩ = some (.int .i64 a) := (by rw [Joins.cell_of_block r0]; rfl); have k1 : w1.cell? ⟨w.heap.size, 1, none⟩ = some (.int .i64 n) := (by rw [Joins.cell_of_block r0]; rfl); have k0' := cell_old (eO a n) k0; have k1' := cell_old (eO a n) k1; have r1 := Lib.hid (heap_old (eO a n) trivial r0); have b01 : Below w.heap.size w (w1.alloc (eO a n)) := (b0.trans (bb.mono (by simp))).alloc (b0.trans (bb.mono (by simp))).size _; clear bb r0) | (go_at_call 32; refine (LI.out _).mono ?_; rintro e w' ⟨rfl, rfl⟩) | fail)
      go_ret2
      exact ⟨_, rfl, World.ownsRow_nil _ _ _ _, b01⟩
  · have eC : giveC b l (a, n) = ([], checkE b l) := by unfold giveC; rw [if_neg hc]
    rw [eC]
    obtain ⟨c, hcc⟩ : ∃ c, checkE b l = c := ⟨_, rfl⟩
    have h3 := check_range b l
    rw [hcc] at CK hc h3 ⊢
    simp only
    have hd : decide (c = 0) = false := decide_eq_false hc
    clear hcc eC
    replace CK := Lib.hid CK
    go_enter Try.func29, Try.ntmps29
    go_wp2_with (first | (go_at_call 15; refine CK.out.mono ?_; rintro e w1 ⟨rfl, bb⟩) | fail)
    go_ret2
    exact ⟨_, rfl, World.ownsRow_nil _ _ _ _, b0.trans (bb.mono (by simp))⟩
set_option maxRecDepth 100000 in
set_option maxHeartbeats 4000000 in
theorem rother_any (b : Int) (l : List Ext) (A : Option Addr) (cap : Nat) (w : World) (hb : I64 b) (hr : RdE w A l) (hl : l.length ≤ cap) :
    Calls Try.prog 30 #[.int .i64 b, .slice A l.length cap] w fun e w' => ∃ v, e = .returned (.tuple #[v, .int .i64 (otherC b l).2]) ∧ w'.ownsRow w.heap.size 25 2 v (otherC b l).1.length (extsV (otherC b l).1) ∧ Below w.heap.size w w' := by
  have CK := rcheck_any b l A cap w hb hr hl
  have HR := Lib.hid hr
  have hm := hr.1
  clear hr
  by_cases hc : checkE b l = 0
  · have hb' := (check_zero hc).1
    have hf := (check_zero hc).2
    rw [hc] at CK
    have oc := otherC_ok hb' hf
    rw [oc]
    simp only
    have b1 := hb'.1
    have b2 := hb'.2
    obtain ⟨N, rfl⟩ := Int.eq_ofNat_of_zero_le b1
    have hrow := other_row hf
    have HF := Lib.hid hf
    have BI := Lib.hid (fun w' (h : Below w.heap.size w w') => bits_any N l A cap w' (by omega) HF.out (HR.out.below h) hl)
    obtain ⟨X, hX⟩ : ∃ X, bitsT N l = X := ⟨_, rfl⟩
    have hXl : X.length = N := by rw [← hX]; exact bitsT_len N l
    rw [hX] at BI hrow
    have RO := Lib.hid (fun w' g (h : w'.heap[g]? = some (.cells (bv (flipB X N)) 4)) => row_any (flipB X N) g N w' (by rw [flipB_len]; exact hXl) (by omega) h)
    rw [hrow] at RO
    replace CK := Lib.hid CK
    clear oc hrow hX hc hf hb'
    go_enter Try.func30, Try.ntmps30
    go_wp2_with (first | (go_at_call 15; refine CK.out.mono ?_; rintro e w1 ⟨rfl, b01⟩) | (go_at_call 40; refine (BI.out _ b01).mono ?_; rintro e w' ⟨rfl, rfl⟩) | fail)
    clear CK BI
    have hs1 := b01.size
    go_loopw [8] (fun kv wr => ∃ k : Nat, k ≤ N ∧ kv = .int .i64 k ∧ wr = w1.alloc (.cells (bv (flipB X k)) 4)) (fun kv _ => N - (intOf kv).toNat)
    case atStart => exact ⟨0, Nat.zero_le _, rfl, by rw [flipB_zero]⟩
    case round =>
      obtain ⟨k, hk, rfl, rfl⟩ := hrel
      by_cases hlk : k < N
      · have hin : k < X.length := by omega
        have hin' : k < (flipB X k).length := by rw [flipB_len]; exact hin
        obtain ⟨z, hz⟩ : ∃ z, X[k] = z := ⟨_, rfl⟩
        have hf1 := flipB_at X k k hin
        rw [if_neg (by omega), hz] at hf1
        have hz1 : (bv (flipB X k))[k]? = some (.bool z) := by
          rw [bv_at _ _ hin']
          rw [List.getElem?_eq_getElem hin'] at hf1
          rw [Option.some.inj hf1]
        have hcell := cell_new w1 (bv (flipB X k)) 4 (0, 0) k _ hz1
        have HN := Lib.hid (by have := flipB_next X k hin; rw [hz] at this; exact this)
        clear hz hf1 hz1 hin' hin
        go_wp2
        go_roundw
        case rel => exact ⟨k + 1, by omega, by go_num, by rw [bv_set, HN.out]⟩
        case measure => simp [intOf]; omega
      · obtain rfl : k = N := by omega
        have b02 : Below w.heap.size w (w1.alloc (.cells (bv (flipB X k)) 4)) := b01.alloc b01.size _
        go_wp2_with (first | (go_at_call 38; refine (RO.out _ _ (heap_new w1 _ _ rfl)).mono ?_; rintro e w5 ⟨v, rfl, hv, b45⟩; have HV := Lib.hid hv; clear hv) | fail)
        go_ret2
        exact ⟨_, rfl, own_up HV.out b02.size, b02.trans (b45.mono b02.size)⟩
  · have eC : otherC b l = ([], checkE b l) := by unfold otherC; rw [if_neg hc]
    rw [eC]
    obtain ⟨c, hcc⟩ : ∃ c, checkE b l = c := ⟨_, rfl⟩
    have h3 := check_range b l
    rw [hcc] at CK hc h3 ⊢
    simp only
    have hd : decide (c = 0) = false := decide_eq_false hc
    clear hcc eC
    replace CK := Lib.hid CK
    go_enter Try.func30, Try.ntmps30
    go_wp2_with (first | (go_at_call 15; refine CK.out.mono ?_; rintro e w1 ⟨rfl, bb⟩) | fail)
    go_ret2
    exact ⟨_, rfl, World.ownsRow_nil _ _ _ _, bb⟩
end Go.Proofs.Ytglbcejcibohpaa
