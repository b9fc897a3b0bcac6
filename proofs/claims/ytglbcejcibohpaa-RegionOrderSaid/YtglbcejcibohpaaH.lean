import Derived.Test.YtglbcejcibohpaaG
import Derived.Deep.RegionHeld3
/-! Take. -/
namespace Go.Proofs.Ytglbcejcibohpaa
open Go.RowKit
set_option linter.unusedVariables false
set_option linter.unusedSimpArgs false
/-- The first extent with so many blocks. -/
def fitsE : List Ext → Int → Option Ext
  | [], _ => none
  | e :: l, n => if n ≤ e.2 then some e else fitsE l n
/-- What is taken. -/
def takeM (l : List Ext) (n : Int) : Option Ext → Ext × List Ext × Int
  | some e => ((e.1, n), withoutE l (e.1, n), 0)
  | none => ((0, 0), [], 101)
def takeC (b : Int) (l : List Ext) (n : Int) : Ext × List Ext × Int :=
  if checkE b l = 0 then (if n < 1 then ((0, 0), [], 1) else takeM l n (fitsE l n)) else ((0, 0), [], checkE b l)
theorem own_up {w : World} {B B' e size n : Nat} {v : Value} {xs : List Value} (h : w.ownsRow B' e size v n xs) (hb : B ≤ B') : w.ownsRow B e size v n xs := by
  refine ⟨h.1, ?_⟩
  rcases h.2 with hn | ⟨g, c, cur, e, hb1, rest⟩
  · exact .inl hn
  · exact .inr ⟨g, c, cur, e, by omega, rest⟩
theorem own_set {w : World} {B e size n g : Nat} {v : Value} {xs : List Value} (h : w.ownsRow B e size v n xs) (hg : g < B) (i : Nat) (u : Value) : (w.setCell ⟨g, i, none⟩ u).ownsRow B e size v n xs :=
  ownsRow_setCell_other h (fun e' => by have := own_base' h _ e'; simp only at this; omega) u
theorem own_dr {w : World} {B e size n : Nat} {v : Value} {xs : List Value} (h : w.ownsRow B e size v n xs) (k : Nat) : (w.drewN k).ownsRow B e size v n xs := h
theorem two_set {w : World} {g : Nat} {a0 a1 u v : Value} {t : TypeId} (h : w.heap[g]? = some (.cells #[a0, a1] t (0, 0))) : ((w.setCell ⟨g, 0, none⟩ u).setCell ⟨g, 1, none⟩ v).heap[g]? = some (.cells #[u, v] t (0, 0)) := by
  simp [World.setCell, Array.getElem?_modify, h]
theorem keepS {w : World} {g i b j : Nat} {u v : Value} (hne : b ≠ g) (h : w.cell? ⟨b, j, none⟩ = some v) : (w.setCell ⟨g, i, none⟩ u).cell? ⟨b, j, none⟩ = some v := (World.cell?_setCell_other _ _ _ _ (by simp [hne])).trans h
theorem own_set2 {w : World} {B e size n g i j : Nat} {v : Value} {xs : List Value} {u u' : Value} (h : w.ownsRow B e size v n xs) (h1 : v.ownBlock ≠ some g := by (intro e; cases e)) (_ : True := trivial) : ((w.setCell ⟨g, i, none⟩ u).setCell ⟨g, j, none⟩ u').ownsRow B e size v n xs :=
  ownsRow_setCell_other (ownsRow_setCell_other h h1 u) h1 u'
theorem keepH {w w' : World} {g : Nat} {o : Obj} (h : Below w.heap.size w w') (hc : w.heap[g]? = some o) : w'.heap[g]? = some o := by rw [h.block g (Array.getElem?_eq_some_iff.1 hc).1]; exact hc
set_option maxRecDepth 100000 in
set_option maxHeartbeats 4000000 in
theorem take_any (b : Int) (l : List Ext) (A : Option Addr) (cap : Nat) (n : Int) (w : World) (hb : I64 b) (hn : I64 n) (hr : RdE w A l) (hl : l.length ≤ cap) :
    Calls Try.prog 11 #[.int .i64 b, .slice A l.length cap, .int .i64 n] w fun e w' => ∃ v, e = .returned (.tuple #[eV (takeC b l n).1.1 (takeC b l n).1.2, v, .int .i64 (takeC b l n).2.2]) ∧ w'.ownsRow w.heap.size 25 2 v (takeC b l n).2.1.length (extsV (takeC b l n).2.1) ∧ Below w.heap.size w w' := by
  have b0 : Below w.heap.size w (w.alloc (eO 0 0)) := (Below.refl _ _).alloc (Nat.le_refl _) _
  have CK := check_any b l A cap (w.alloc (eO 0 0)) hb (hr.below b0) hl
  have HR := Lib.hid hr
  have hm := hr.1
  have R0 := Lib.hid (heap_new w (eO 0 0) w.heap.size rfl)
  obtain ⟨n1, n2⟩ := hn
  clear hr
  by_cases hc : checkE b l = 0
  · obtain ⟨⟨b1, b2⟩, hf⟩ := check_zero hc
    rw [hc] at CK
    have hsm := free_small hf b2
    have HF := Lib.hid hf
    replace CK := Lib.hid CK
    by_cases hn1 : n < 1
    · have eC : takeC b l n = ((0, 0), [], 1) := by unfold takeC; rw [if_pos hc, if_pos hn1]
      rw [eC]
      clear eC hc hf
      simp only
      go_enter Try.func11, Try.ntmps11
      go_wp2_with (first | (go_at_call 24; refine CK.out.mono ?_; rintro e w1 ⟨rfl, bb⟩; have r0 := keepH bb R0.out; have q0 : w1.cell? ⟨w.heap.size, 0, none⟩ = some (.int .i64 0) := (by rw [Joins.cell_of_block r0]; rfl); have q1 : w1.cell? ⟨w.heap.size, 1, none⟩ = some (.int .i64 0) := (by rw [Joins.cell_of_block r0]; rfl); have f0 := fr_of r0 0; have f1 := fr_of r0 1) | fail)
      obtain ⟨Wz, hWz⟩ : ∃ Wz, ((w1).setCell ⟨w.heap.size, 0, none⟩ (.int .i64 (0))).setCell ⟨w.heap.size, 1, none⟩ (.int .i64 (0)) = Wz := ⟨_, rfl⟩
      first | rw [hWz] | skip
      have gz : Wz.heap[w.heap.size]? = some (eO (0) (0)) := by rw [← hWz]; exact two_set (r0)
      have bz : Below w.heap.size w Wz := by rw [← hWz]; exact ((b0.trans (bb.mono (by simp))).setCell (Nat.le_refl _) _).setCell (Nat.le_refl _) _
      have oz : Wz.ownsRow w.heap.size 25 2 (.slice none 0 0) 0 (extsV []) := by rw [← hWz]; exact own_set2 (World.ownsRow_nil _ _ _ _)
      have d0 : Wz.cell? ⟨w.heap.size, 0, none⟩ = some (.int .i64 (0)) := by rw [Joins.cell_of_block gz]; rfl
      have d1 : Wz.cell? ⟨w.heap.size, 1, none⟩ = some (.int .i64 (0)) := by rw [Joins.cell_of_block gz]; rfl
      exact bodyPost_ret (v := .tuple #[eV (0) (0), .slice none 0 0, .int .i64 1]) (by simp [results, Try.results11, go_sem, d0, d1]) rfl ⟨_, rfl, oz, bz⟩
    · obtain ⟨T, hT⟩ : ∃ T, fitsE l n = T := ⟨_, rfl⟩
      have eC : takeC b l n = takeM l n T := by unfold takeC; rw [if_pos hc, if_neg hn1, hT]
      have HT := Lib.hid hT
      obtain ⟨⟨⟨X, Y⟩, R, c⟩, hC⟩ : ∃ C, takeC b l n = C := ⟨_, rfl⟩
      rw [hC] at eC ⊢
      simp only
      have HC := Lib.hid eC.symm
      clear hT hC hc eC hf
      go_enter Try.func11, Try.ntmps11
      go_wp2_with (first | (go_at_call 24; refine CK.out.mono ?_; rintro e w1 ⟨rfl, bb⟩; have r0 := Lib.hid (keepH bb R0.out); have b01 : Below w.heap.size w w1 := b0.trans (bb.mono (by simp)); clear bb) | fail)
      clear CK
      go_loopw [25] (fun i wr => ∃ k : Nat, k ≤ l.length ∧ i = .int .i64 k ∧ fitsE (l.drop k) n = T ∧ wr.heap[w.heap.size]? = some (eO 0 0) ∧ Below w.heap.size w wr) (fun i _ => l.length - (intOf i).toNat)
      case atStart => exact ⟨0, Nat.zero_le _, rfl, HT.out, r0.out, b01⟩
      case round =>
        obtain ⟨k, hk, rfl, hp, hg, hbel⟩ := hrel
        have hsr := hbel.size
        have hsr1 : w.heap.size < wr.heap.size := (Array.getElem?_eq_some_iff.1 hg).1
        by_cases hlt : k < l.length
        · obtain ⟨ad, hAd, c0, c1, i1, i2⟩ := (HR.out.below hbel).2 k hlt
          subst hAd
          have hlie := (freeF_lies HF.out _ (List.getElem_mem hlt)).1
          rw [List.drop_eq_getElem_cons hlt] at hp
          obtain ⟨⟨x, y⟩, ht⟩ : ∃ t, l[k] = t := ⟨_, rfl⟩
          rw [ht] at c0 c1 hlie hp
          unfold liesE at hlie
          simp only at c0 c1 hlie
          obtain ⟨p1, p2, p3⟩ := hlie
          clear ht i1 i2
          by_cases hy : n ≤ y
          · have hT' : T = some (x, y) := by rw [← hp, fitsE, if_pos hy]
            have eC := HC.out
            rw [hT'] at eC
            simp only [takeM, Prod.mk.injEq] at eC
            obtain ⟨⟨rfl, rfl⟩, rfl, rfl⟩ := eC
            have bb : Below w.heap.size w ((wr.alloc (eO x y)).alloc (eO x n)) := (hbel.alloc hsr _).alloc (by simp; omega) _
            have WO : Hid (∀ w1 : World, Below w.heap.size w w1 → Calls Try.prog 31 #[.slice (some ad) l.length cap, eV x n] w1 fun e w' => ∃ v, e = .returned v ∧ w'.ownsRow w1.heap.size 25 2 v (withoutE l (x, n)).length (extsV (withoutE l (x, n))) ∧ Below w1.heap.size w1 w') := fun w1 h => without_any b l (some ad) cap x n w1 b2 HF.out (by unfold liesE; simp only; omega) (HR.out.below h) hl
            have d0 : ((wr.alloc (eO x y)).alloc (eO x n)).cell? ⟨wr.heap.size + 1, 0, none⟩ = some (.int .i64 x) := by have h := cell_new (wr.alloc (eO x y)) #[.int .i64 x, .int .i64 n] 25 (0, 0) 0 _ rfl; rw [size_alloc] at h; exact h
            have d1 : ((wr.alloc (eO x y)).alloc (eO x n)).cell? ⟨wr.heap.size + 1, 1, none⟩ = some (.int .i64 n) := by have h := cell_new (wr.alloc (eO x y)) #[.int .i64 x, .int .i64 n] 25 (0, 0) 1 _ rfl; rw [size_alloc] at h; exact h
            have hg2 := heap_old (eO x n) trivial (heap_old (eO x y) trivial hg)
            clear hp hT'
            go_wp2
            obtain ⟨W, hW⟩ : ∃ W, ((wr.alloc (eO x y)).alloc (eO x n)) = W := ⟨_, rfl⟩
            rw [show ((wr.alloc (Obj.cells #[Value.int IntKind.i64 x, Value.int IntKind.i64 y] 25)).alloc (Obj.cells #[Value.int IntKind.i64 x, Value.int IntKind.i64 n] 25)) = W from hW]
            rw [hW] at bb hg2
            have d0' : W.cell? ⟨wr.heap.size + 1, 0, none⟩ = some (.int .i64 x) := by rw [← hW]; exact d0
            have d1' : W.cell? ⟨wr.heap.size + 1, 1, none⟩ = some (.int .i64 n) := by rw [← hW]; exact d1
            have lt1 : wr.heap.size + 1 < W.heap.size := World.block_lt_of_cell? W _ d0'
            have HG := Lib.hid hg2
            have hsW := bb.size
            have hne : wr.heap.size + 1 ≠ w.heap.size := by omega
            clear d0 d1 hW hg2 c0 c1 hg
            go_region_held3 (fun w' => w'.cell? ⟨wr.heap.size + 1, 0, none⟩ = some (.int .i64 x) ∧ w'.cell? ⟨wr.heap.size + 1, 1, none⟩ = some (.int .i64 n)) (with_reducible repeat' first | assumption | apply And.intro | apply keepA | apply keepD | refine keepS (by assumption) ?_ | refine keepB (by assumption) ?_)
              (first | (go_at_call 31; refine (WO.out _ (by first | exact bb | exact below_dr bb _ | exact bb.drew)).mono ?_; rintro e w2 ⟨u, rfl, hu, b2'⟩; have HU := Lib.hid hu; have r2 : w2.heap[w.heap.size]? = some (eO 0 0) := ((b2'.block _ (by first | (simp; omega) | omega)).trans HG.out); have q0 : w2.cell? ⟨w.heap.size, 0, none⟩ = some (.int .i64 0) := (by rw [Joins.cell_of_block r2]; rfl); have q1 : w2.cell? ⟨w.heap.size, 1, none⟩ = some (.int .i64 0) := (by rw [Joins.cell_of_block r2]; rfl); have f0 := fr_of r2 0; have f1 := fr_of r2 1; have z2 : w.heap.size < w2.heap.size := World.block_lt_of_cell? w2 _ q0))
            clear hu
            go_wp2
            obtain ⟨Wz, hWz⟩ : ∃ Wz, ((w2).setCell ⟨w.heap.size, 0, none⟩ (.int .i64 (x))).setCell ⟨w.heap.size, 1, none⟩ (.int .i64 (n)) = Wz := ⟨_, rfl⟩
            first | rw [hWz] | skip
            have gz : Wz.heap[w.heap.size]? = some (eO (x) (n)) := by rw [← hWz]; exact two_set (r2)
            have bz : Below w.heap.size w Wz := by rw [← hWz]; exact (((bb.drew.trans (b2'.mono hsW) : Below w.heap.size w w2)).setCell (Nat.le_refl _) _).setCell (Nat.le_refl _) _
            have oz : Wz.ownsRow w.heap.size 25 2 (u) (withoutE l (x, n)).length (extsV (withoutE l (x, n))) := by rw [← hWz]; exact own_set2 (own_up HU.out hsW) (fun e' => by have h := own_base' HU.out _ e'; have h2 : W.drew.heap.size = W.heap.size := rfl; omega)
            have d0 : Wz.cell? ⟨w.heap.size, 0, none⟩ = some (.int .i64 (x)) := by rw [Joins.cell_of_block gz]; rfl
            have d1 : Wz.cell? ⟨w.heap.size, 1, none⟩ = some (.int .i64 (n)) := by rw [Joins.cell_of_block gz]; rfl
            exact bodyPost_ret (v := .tuple #[eV (x) (n), u, .int .i64 0]) (by simp [results, Try.results11, go_sem, d0, d1]) rfl ⟨_, rfl, oz, bz⟩
          · have Hp := Lib.hid (show fitsE (l.drop (k + 1)) n = T by rw [← hp, fitsE, if_neg hy])
            have hg2 := heap_old (eO x y) trivial hg
            clear hp
            go_wp2
            go_roundw
            case rel => exact ⟨k + 1, by omega, by go_num, Hp.out, hg2, hbel.alloc hsr _⟩
            case measure => simp [intOf]; omega
        · rw [List.drop_eq_nil_of_le (by omega), fitsE] at hp
          have eC := HC.out
          rw [← hp] at eC
          simp only [takeM, Prod.mk.injEq] at eC
          obtain ⟨⟨rfl, rfl⟩, rfl, rfl⟩ := eC
          have q0 : wr.cell? ⟨w.heap.size, 0, none⟩ = some (.int .i64 0) := by rw [Joins.cell_of_block hg]; rfl
          have q1 : wr.cell? ⟨w.heap.size, 1, none⟩ = some (.int .i64 0) := by rw [Joins.cell_of_block hg]; rfl
          have f0 := fr_of hg 0
          have f1 := fr_of hg 1
          go_wp2
          obtain ⟨Wz, hWz⟩ : ∃ Wz, ((wr).setCell ⟨w.heap.size, 0, none⟩ (.int .i64 (0))).setCell ⟨w.heap.size, 1, none⟩ (.int .i64 (0)) = Wz := ⟨_, rfl⟩
          first | rw [hWz] | skip
          have gz : Wz.heap[w.heap.size]? = some (eO (0) (0)) := by rw [← hWz]; exact two_set (hg)
          have bz : Below w.heap.size w Wz := by rw [← hWz]; exact ((hbel).setCell (Nat.le_refl _) _).setCell (Nat.le_refl _) _
          have oz : Wz.ownsRow w.heap.size 25 2 (.slice none 0 0) 0 (extsV []) := by rw [← hWz]; exact own_set2 (World.ownsRow_nil _ _ _ _)
          have d0 : Wz.cell? ⟨w.heap.size, 0, none⟩ = some (.int .i64 (0)) := by rw [Joins.cell_of_block gz]; rfl
          have d1 : Wz.cell? ⟨w.heap.size, 1, none⟩ = some (.int .i64 (0)) := by rw [Joins.cell_of_block gz]; rfl
          exact bodyPost_ret (v := .tuple #[eV (0) (0), .slice none 0 0, .int .i64 101]) (by simp [results, Try.results11, go_sem, d0, d1]) rfl ⟨_, rfl, oz, bz⟩
  · have eC : takeC b l n = ((0, 0), [], checkE b l) := by unfold takeC; rw [if_neg hc]
    rw [eC]
    obtain ⟨c, hcc⟩ : ∃ c, checkE b l = c := ⟨_, rfl⟩
    have h3 := check_range b l
    rw [hcc] at CK hc h3 ⊢
    simp only
    have hd : decide (c = 0) = false := decide_eq_false hc
    clear hcc eC
    replace CK := Lib.hid CK
    go_enter Try.func11, Try.ntmps11
    go_wp2_with (first | (go_at_call 24; refine CK.out.mono ?_; rintro e w1 ⟨rfl, bb⟩; have r0 := keepH bb R0.out; have q0 : w1.cell? ⟨w.heap.size, 0, none⟩ = some (.int .i64 0) := (by rw [Joins.cell_of_block r0]; rfl); have q1 : w1.cell? ⟨w.heap.size, 1, none⟩ = some (.int .i64 0) := (by rw [Joins.cell_of_block r0]; rfl); have f0 := fr_of r0 0; have f1 := fr_of r0 1) | fail)
    obtain ⟨Wz, hWz⟩ : ∃ Wz, ((w1).setCell ⟨w.heap.size, 0, none⟩ (.int .i64 (0))).setCell ⟨w.heap.size, 1, none⟩ (.int .i64 (0)) = Wz := ⟨_, rfl⟩
    first | rw [hWz] | skip
    have gz : Wz.heap[w.heap.size]? = some (eO (0) (0)) := by rw [← hWz]; exact two_set (r0)
    have bz : Below w.heap.size w Wz := by rw [← hWz]; exact ((b0.trans (bb.mono (by simp))).setCell (Nat.le_refl _) _).setCell (Nat.le_refl _) _
    have oz : Wz.ownsRow w.heap.size 25 2 (.slice none 0 0) 0 (extsV []) := by rw [← hWz]; exact own_set2 (World.ownsRow_nil _ _ _ _)
    have d0 : Wz.cell? ⟨w.heap.size, 0, none⟩ = some (.int .i64 (0)) := by rw [Joins.cell_of_block gz]; rfl
    have d1 : Wz.cell? ⟨w.heap.size, 1, none⟩ = some (.int .i64 (0)) := by rw [Joins.cell_of_block gz]; rfl
    exact bodyPost_ret (v := .tuple #[eV (0) (0), .slice none 0 0, .int .i64 c]) (by simp [results, Try.results11, go_sem, d0, d1]) rfl ⟨_, rfl, oz, bz⟩
end Go.Proofs.Ytglbcejcibohpaa
