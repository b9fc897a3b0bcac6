import Derived.Test.YtglbcejcibohpaaZ
/-! All, Greatest. -/
namespace Go.Proofs.Ytglbcejcibohpaa
open Go.RowKit
set_option linter.unusedVariables false
set_option linter.unusedSimpArgs false
/-- All blocks, or why not. -/
def allC (b : Int) : List Ext × Int := if b < 0 ∨ 4096 < b then ([], 1) else if b = 0 then ([], 0) else ([(0, b)], 0)
theorem allC_allI (b : Int) : AllI (allC b).1 := by
  unfold allC
  split
  · exact allI_nil
  · split
    · exact allI_nil
    · intro e he
      simp at he
      subst he
      exact ⟨⟨by simp only; omega, by simp only; omega⟩, ⟨by simp only; omega, by simp only; omega⟩⟩
def maxS : Ext → List Ext → Ext
  | b, [] => b
  | b, e :: l => if b.2 < e.2 then maxS e l else maxS b l
set_option maxRecDepth 100000 in
set_option maxHeartbeats 4000000 in
theorem all_any (b : Int) (w : World) (hb : I64 b) :
    Calls Try.prog 21 #[.int .i64 b] w fun e w' => ∃ v, e = .returned (.tuple #[v, .int .i64 (allC b).2]) ∧ w'.ownsRow w.heap.size 25 2 v (allC b).1.length (extsV (allC b).1) ∧ Below w.heap.size w w' := by
  by_cases h1 : b < 0
  · have e : allC b = ([], 1) := by unfold allC; rw [if_pos (Or.inl h1)]
    rw [e]
    clear e
    go_enter Try.func21, Try.ntmps21
    go_wp2
    go_ret2
    exact ⟨_, rfl, World.ownsRow_nil _ _ _ _, Below.refl _ _⟩
  by_cases h2 : 4096 < b
  · have e : allC b = ([], 1) := by unfold allC; rw [if_pos (Or.inr h2)]
    rw [e]
    clear e
    go_enter Try.func21, Try.ntmps21
    go_wp2
    go_ret2
    exact ⟨_, rfl, World.ownsRow_nil _ _ _ _, Below.refl _ _⟩
  by_cases h3 : b = 0
  · subst h3
    have e : allC 0 = ([], 0) := by decide
    rw [e]
    clear e
    go_enter Try.func21, Try.ntmps21
    go_wp2
    go_ret2
    exact ⟨_, rfl, World.ownsRow_nil _ _ _ _, Below.refl _ _⟩
  · have e : allC b = ([(0, b)], 0) := by unfold allC; rw [if_neg (by omega), if_neg h3]
    rw [e]
    have p3 : (b == 0) = false := by simpa using h3
    clear e
    go_enter Try.func21, Try.ntmps21
    go_wp2
    go_ret2
    exact ⟨_, rfl, own_one (0, b) (Nat.le_refl _) rfl, (Below.refl _ _).alloc (Nat.le_refl _) _⟩
set_option maxRecDepth 100000 in
set_option maxHeartbeats 4000000 in
theorem rall_any (b : Int) (w : World) (hb : I64 b) :
    Calls Try.prog 22 #[.int .i64 b] w fun e w' => ∃ v, e = .returned (.tuple #[v, .int .i64 (allC b).2]) ∧ w'.ownsRow w.heap.size 25 2 v (allC b).1.length (extsV (allC b).1) ∧ Below w.heap.size w w' := by
  by_cases h1 : b < 0
  · have e : allC b = ([], 1) := by unfold allC; rw [if_pos (Or.inl h1)]
    rw [e]
    clear e
    go_enter Try.func22, Try.ntmps22
    go_wp2
    go_ret2
    exact ⟨_, rfl, World.ownsRow_nil _ _ _ _, Below.refl _ _⟩
  by_cases h2 : 4096 < b
  · have e : allC b = ([], 1) := by unfold allC; rw [if_pos (Or.inr h2)]
    rw [e]
    clear e
    go_enter Try.func22, Try.ntmps22
    go_wp2
    go_ret2
    exact ⟨_, rfl, World.ownsRow_nil _ _ _ _, Below.refl _ _⟩
  by_cases h3 : b = 0
  · subst h3
    have e : allC 0 = ([], 0) := by decide
    rw [e]
    clear e
    go_enter Try.func22, Try.ntmps22
    go_wp2
    go_ret2
    exact ⟨_, rfl, World.ownsRow_nil _ _ _ _, Below.refl _ _⟩
  · have e : allC b = ([(0, b)], 0) := by unfold allC; rw [if_neg (by omega), if_neg h3]
    rw [e]
    have p3 : (b == 0) = false := by simpa using h3
    clear e
    go_enter Try.func22, Try.ntmps22
    go_wp2
    go_ret2
    exact ⟨_, rfl, own_one (0, b) (Nat.le_refl _) rfl, (Below.refl _ _).alloc (Nat.le_refl _) _⟩
set_option maxRecDepth 100000 in
set_option maxHeartbeats 4000000 in
theorem greatest_any (l : List Ext) (A : Option Addr) (cap : Nat) (w : World) (hr : RdE w A l) (hl : l.length ≤ cap) :
    Calls Try.prog 26 #[.slice A l.length cap] w fun e w' => e = .returned (eV (maxS (0, 0) l).1 (maxS (0, 0) l).2) ∧ Below w.heap.size w w' := by
  have HR := Lib.hid hr
  have hm := hr.1
  have b0 : Below w.heap.size w ((w.alloc (eO 0 0)).alloc (eO 0 0)) := ((Below.refl _ _).alloc (Nat.le_refl _) _).alloc (by simp) _
  have R0 := Lib.hid (heap_old (eO 0 0) trivial (heap_new w (eO 0 0) w.heap.size rfl))
  have R1 := Lib.hid (heap_new (w.alloc (eO 0 0)) (eO 0 0) (w.heap.size + 1) (by simp))
  obtain ⟨⟨X, Y⟩, hT⟩ : ∃ T, maxS (0, 0) l = T := ⟨_, rfl⟩
  rw [hT]
  simp only
  have HT := Lib.hid hT
  clear hr hT
  go_enter Try.func26, Try.ntmps26
  go_wp2
  go_loopw [8] (fun i wr => ∃ (k : Nat) (p q : Int), k ≤ l.length ∧ i = .int .i64 k ∧ 0 ≤ q ∧ I64 p ∧ I64 q ∧ maxS (p, q) (l.drop k) = (X, Y) ∧ wr.heap[w.heap.size]? = some (eO 0 0) ∧ wr.heap[w.heap.size + 1]? = some (eO p q) ∧ Below w.heap.size w wr) (fun i _ => l.length - (intOf i).toNat)
  case atStart => exact ⟨0, 0, 0, Nat.zero_le _, rfl, Int.le_refl _, ⟨by omega, by omega⟩, ⟨by omega, by omega⟩, HT.out, R0.out, R1.out, b0⟩
  case round =>
    obtain ⟨k, p, q, hk, rfl, hq, ip, iq, hp, g0, g1, hbel⟩ := hrel
    have hsr := hbel.size
    have lt1 : w.heap.size + 1 < wr.heap.size := (Array.getElem?_eq_some_iff.1 g1).1
    have q0 : wr.cell? ⟨w.heap.size + 1, 0, none⟩ = some (.int .i64 p) := by rw [Joins.cell_of_block g1]; rfl
    have q1 : wr.cell? ⟨w.heap.size + 1, 1, none⟩ = some (.int .i64 q) := by rw [Joins.cell_of_block g1]; rfl
    have r0 : wr.cell? ⟨w.heap.size, 0, none⟩ = some (.int .i64 0) := by rw [Joins.cell_of_block g0]; rfl
    have r1 : wr.cell? ⟨w.heap.size, 1, none⟩ = some (.int .i64 0) := by rw [Joins.cell_of_block g0]; rfl
    have f0 := fr_of g0 0
    have f1 := fr_of g0 1
    have f2 := fr_of g1 0
    have f3 := fr_of g1 1
    have G0 := Lib.hid g0
    have G1 := Lib.hid g1
    by_cases hlt : k < l.length
    · obtain ⟨ad, hAd, c0, c1, i1, i2⟩ := (HR.out.below hbel).2 k hlt
      subst hAd
      rw [List.drop_eq_getElem_cons hlt] at hp
      obtain ⟨⟨x, y⟩, ht⟩ : ∃ t, l[k] = t := ⟨_, rfl⟩
      rw [ht] at c0 c1 hp i1 i2
      simp only at c0 c1 i1 i2
      have I1 := Lib.hid i1
      have I2 := Lib.hid i2
      obtain ⟨y1, y2⟩ := i2
      obtain ⟨qq1, qq2⟩ := iq
      clear ht g0 g1 i1
      by_cases hc : q < y
      · have e1 : decide (q < y) = true := decide_eq_true hc
        have Hp := Lib.hid (show maxS (x, y) (l.drop (k + 1)) = (X, Y) by rw [maxS, if_pos hc] at hp; exact hp)
        clear hp
        have q0a := cell_old (eO x y) q0
        have q1a := cell_old (eO x y) q1
        go_wp2
        skip
        skip
        skip
        go_roundw
        case rel => exact ⟨k + 1, x, y, by omega, by go_num, by omega, I1.out, I2.out, Hp.out, by first | exact heap_set_other (heap_set_other (heap_old _ trivial G0.out) (by omega)) (by omega) | exact heap_old _ trivial (heap_set_other (heap_set_other G0.out (by omega)) (by omega)), by first | exact two_set (heap_old _ trivial G1.out) | exact heap_old _ trivial (two_set G1.out), by first | exact ((hbel.alloc hsr _).setCell (by simp) _).setCell (by simp) _ | exact ((hbel.setCell (by simp) _).setCell (by simp) _).alloc (by simp; omega) _⟩
        case measure => simp [intOf]; omega
      · have Hp := Lib.hid (show maxS (p, q) (l.drop (k + 1)) = (X, Y) by rw [maxS, if_neg hc] at hp; exact hp)
        have e1 : decide (q < y) = false := decide_eq_false hc
        clear hp
        by_cases hy1 : 1 ≤ y
        · have e2 : decide (1 ≤ y) = true := decide_eq_true hy1
          go_wp2
          go_roundw
          case rel => exact ⟨k + 1, p, q, by omega, by go_num, hq, ip, ⟨qq1, qq2⟩, Hp.out, heap_old _ trivial G0.out, heap_old _ trivial G1.out, hbel.alloc hsr _⟩
          case measure => simp [intOf]; omega
        · have e2 : decide (1 ≤ y) = false := decide_eq_false hy1
          go_wp2
          go_roundw
          case rel => exact ⟨k + 1, p, q, by omega, by go_num, hq, ip, ⟨qq1, qq2⟩, Hp.out, heap_old _ trivial G0.out, heap_old _ trivial G1.out, hbel.alloc hsr _⟩
          case measure => simp [intOf]; omega
    · rw [List.drop_eq_nil_of_le (by omega), maxS] at hp
      obtain ⟨rfl, rfl⟩ := Prod.mk.inj hp
      clear hp g0 g1
      go_wp2
      obtain ⟨Wz, hWz⟩ : ∃ Wz, ((wr).setCell ⟨w.heap.size, 0, none⟩ (.int .i64 (p))).setCell ⟨w.heap.size, 1, none⟩ (.int .i64 (q)) = Wz := ⟨_, rfl⟩
      first | rw [hWz] | skip
      have gz : Wz.heap[w.heap.size]? = some (eO (p) (q)) := by rw [← hWz]; exact two_set (G0.out)
      have bz : Below w.heap.size w Wz := by rw [← hWz]; exact ((hbel).setCell (Nat.le_refl _) _).setCell (Nat.le_refl _) _
      have d0 : Wz.cell? ⟨w.heap.size, 0, none⟩ = some (.int .i64 (p)) := by rw [Joins.cell_of_block gz]; rfl
      have d1 : Wz.cell? ⟨w.heap.size, 1, none⟩ = some (.int .i64 (q)) := by rw [Joins.cell_of_block gz]; rfl
      exact bodyPost_ret (v := eV (p) (q)) (by simp [results, Try.results26, go_sem, d0, d1]) rfl ⟨rfl, bz⟩
set_option maxRecDepth 100000 in
set_option maxHeartbeats 4000000 in
theorem rgreatest_any (l : List Ext) (A : Option Addr) (cap : Nat) (w : World) (hr : RdE w A l) (hl : l.length ≤ cap) :
    Calls Try.prog 27 #[.slice A l.length cap] w fun e w' => e = .returned (eV (maxS (0, 0) l).1 (maxS (0, 0) l).2) ∧ Below w.heap.size w w' := by
  have HR := Lib.hid hr
  have hm := hr.1
  have b0 : Below w.heap.size w ((w.alloc (eO 0 0)).alloc (eO 0 0)) := ((Below.refl _ _).alloc (Nat.le_refl _) _).alloc (by simp) _
  have R0 := Lib.hid (heap_old (eO 0 0) trivial (heap_new w (eO 0 0) w.heap.size rfl))
  have R1 := Lib.hid (heap_new (w.alloc (eO 0 0)) (eO 0 0) (w.heap.size + 1) (by simp))
  obtain ⟨⟨X, Y⟩, hT⟩ : ∃ T, maxS (0, 0) l = T := ⟨_, rfl⟩
  rw [hT]
  simp only
  have HT := Lib.hid hT
  clear hr hT
  go_enter Try.func27, Try.ntmps27
  go_wp2
  go_loopw [4] (fun i wr => ∃ (k : Nat) (p q : Int), k ≤ l.length ∧ i = .int .i64 k ∧ 0 ≤ q ∧ I64 p ∧ I64 q ∧ maxS (p, q) (l.drop k) = (X, Y) ∧ wr.heap[w.heap.size]? = some (eO 0 0) ∧ wr.heap[w.heap.size + 1]? = some (eO p q) ∧ Below w.heap.size w wr) (fun i _ => l.length - (intOf i).toNat)
  case atStart => exact ⟨0, 0, 0, Nat.zero_le _, rfl, Int.le_refl _, ⟨by omega, by omega⟩, ⟨by omega, by omega⟩, HT.out, R0.out, R1.out, b0⟩
  case round =>
    obtain ⟨k, p, q, hk, rfl, hq, ip, iq, hp, g0, g1, hbel⟩ := hrel
    have hsr := hbel.size
    have lt1 : w.heap.size + 1 < wr.heap.size := (Array.getElem?_eq_some_iff.1 g1).1
    have q0 : wr.cell? ⟨w.heap.size + 1, 0, none⟩ = some (.int .i64 p) := by rw [Joins.cell_of_block g1]; rfl
    have q1 : wr.cell? ⟨w.heap.size + 1, 1, none⟩ = some (.int .i64 q) := by rw [Joins.cell_of_block g1]; rfl
    have r0 : wr.cell? ⟨w.heap.size, 0, none⟩ = some (.int .i64 0) := by rw [Joins.cell_of_block g0]; rfl
    have r1 : wr.cell? ⟨w.heap.size, 1, none⟩ = some (.int .i64 0) := by rw [Joins.cell_of_block g0]; rfl
    have f0 := fr_of g0 0
    have f1 := fr_of g0 1
    have f2 := fr_of g1 0
    have f3 := fr_of g1 1
    have G0 := Lib.hid g0
    have G1 := Lib.hid g1
    by_cases hlt : k < l.length
    · obtain ⟨ad, hAd, c0, c1, i1, i2⟩ := (HR.out.below hbel).2 k hlt
      subst hAd
      rw [List.drop_eq_getElem_cons hlt] at hp
      obtain ⟨⟨x, y⟩, ht⟩ : ∃ t, l[k] = t := ⟨_, rfl⟩
      rw [ht] at c0 c1 hp i1 i2
      simp only at c0 c1 i1 i2
      have I1 := Lib.hid i1
      have I2 := Lib.hid i2
      obtain ⟨y1, y2⟩ := i2
      obtain ⟨qq1, qq2⟩ := iq
      clear ht g0 g1 i1
      by_cases hc : q < y
      · have e1 : decide (q < y) = true := decide_eq_true hc
        have Hp := Lib.hid (show maxS (x, y) (l.drop (k + 1)) = (X, Y) by rw [maxS, if_pos hc] at hp; exact hp)
        clear hp
        skip
        skip
        go_wp2
        go_quiet (fail)
        clear e1
        go_wp2
        go_roundw
        case rel => exact ⟨k + 1, x, y, by omega, by go_num, by omega, I1.out, I2.out, Hp.out, by exact heap_set_other (heap_set_other G0.out (by omega)) (by omega), by exact two_set G1.out, by refine Below.setCell (Below.setCell ?_ (by simp) _) (by simp) _; repeat first | exact hbel | exact below_dr hbel _⟩
        case measure => simp [intOf]; omega
      · have Hp := Lib.hid (show maxS (p, q) (l.drop (k + 1)) = (X, Y) by rw [maxS, if_neg hc] at hp; exact hp)
        have e1 : decide (q < y) = false := decide_eq_false hc
        clear hp
        skip
        go_wp2
        go_quiet (fail)
        clear e1
        go_wp2
        go_roundw
        case rel => exact ⟨k + 1, p, q, by omega, by go_num, hq, ip, ⟨qq1, qq2⟩, Hp.out, G0.out, G1.out, by repeat first | exact hbel | exact below_dr hbel _⟩
        case measure => simp [intOf]; omega
    · rw [List.drop_eq_nil_of_le (by omega), maxS] at hp
      obtain ⟨rfl, rfl⟩ := Prod.mk.inj hp
      clear hp g0 g1
      go_wp2
      obtain ⟨Wz, hWz⟩ : ∃ Wz, ((wr).setCell ⟨w.heap.size, 0, none⟩ (.int .i64 (p))).setCell ⟨w.heap.size, 1, none⟩ (.int .i64 (q)) = Wz := ⟨_, rfl⟩
      first | rw [hWz] | skip
      have gz : Wz.heap[w.heap.size]? = some (eO (p) (q)) := by rw [← hWz]; exact two_set (G0.out)
      have bz : Below w.heap.size w Wz := by rw [← hWz]; exact ((hbel).setCell (Nat.le_refl _) _).setCell (Nat.le_refl _) _
      have d0 : Wz.cell? ⟨w.heap.size, 0, none⟩ = some (.int .i64 (p)) := by rw [Joins.cell_of_block gz]; rfl
      have d1 : Wz.cell? ⟨w.heap.size, 1, none⟩ = some (.int .i64 (q)) := by rw [Joins.cell_of_block gz]; rfl
      exact bodyPost_ret (v := eV (p) (q)) (by simp [results, Try.results27, go_sem, d0, d1]) rfl ⟨rfl, bz⟩
end Go.Proofs.Ytglbcejcibohpaa
