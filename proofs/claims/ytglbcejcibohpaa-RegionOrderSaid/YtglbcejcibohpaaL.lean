import Derived.Test.YtglbcejcibohpaaJ
import Derived.Deep.Cut
/-! Give, whole. -/
namespace Go.Proofs.Ytglbcejcibohpaa
open Go.RowKit
set_option linter.unusedVariables false
set_option linter.unusedSimpArgs false
/-- A row with some blocks more, or why not. -/
def giveC (b : Int) (l : List Ext) (e : Ext) : List Ext × Int :=
  if checkE b l = 0 then (if liesE b e then (if hitsE l e then ([], 102) else (giveF e false l, 0)) else ([], 100)) else ([], checkE b l)
def NoHit (l : List Ext) (e : Ext) (k : Nat) : Prop := ∀ j (h : j < l.length), j < k → ¬ (l[j].1 < e.1 + e.2 ∧ e.1 < l[j].1 + l[j].2)
theorem NoHit.next {l : List Ext} {e : Ext} {k : Nat} (h : NoHit l e k) (hk : k < l.length) (h1 : ¬ (l[k].1 < e.1 + e.2 ∧ e.1 < l[k].1 + l[k].2)) : NoHit l e (k + 1) := fun j hj hjk => by
  rcases Nat.eq_or_lt_of_le (Nat.le_of_lt_succ hjk) with rfl | h'
  · exact h1
  · exact h j hj h'
theorem NoHit.all {l : List Ext} {e : Ext} {k : Nat} (h : NoHit l e k) (hk : l.length ≤ k) : ¬ hitsE l e := by
  rintro ⟨x, hx, hh⟩
  obtain ⟨j, hj, rfl⟩ := List.getElem_of_mem hx
  exact h j hj (by omega) hh
set_option maxRecDepth 100000 in
set_option maxHeartbeats 4000000 in
theorem give_any (b : Int) (l : List Ext) (A : Option Addr) (cap : Nat) (a n : Int) (w : World) (hb : I64 b) (ha : I64 a) (hn : I64 n) (hr : RdE w A l) (hl : l.length ≤ cap) :
    Calls Try.prog 16 #[.int .i64 b, .slice A l.length cap, eV a n] w fun e w' => ∃ v, e = .returned (.tuple #[v, .int .i64 (giveC b l (a, n)).2]) ∧ w'.ownsRow w.heap.size 25 2 v (giveC b l (a, n)).1.length (extsV (giveC b l (a, n)).1) ∧ Below w.heap.size w w' := by
  obtain ⟨i0, hi, hz0, hz1, hz2⟩ := info_parts info25
  have hmf : ∀ (fn : Fn) (first cap : Array Value) (w : World), (Instr.makeFunc fn first cap).run Try.prog w = .ok (.func fn first cap) w := fun _ _ _ _ => rfl
  have b0 : Below w.heap.size w (w.alloc (eO a n)) := (Below.refl _ _).alloc (Nat.le_refl _) _
  have CK := check_any b l A cap (w.alloc (eO a n)) hb (hr.below b0) hl
  have HR := Lib.hid hr
  have hm := hr.1
  have R0 := Lib.hid (heap_new w (eO a n) w.heap.size rfl)
  clear hr
  by_cases hc : checkE b l = 0
  · obtain ⟨⟨b1, b2⟩, hf⟩ := check_zero hc
    rw [hc] at CK
    have hsm := free_small hf b2
    have HF := Lib.hid hf
    have LI := fun w => lies_any b a n w ⟨b1, b2⟩ ha hn
    replace CK := Lib.hid CK
    by_cases hlies : liesE b (a, n)
    · have HL := Lib.hid hlies
      unfold liesE at hlies
      simp only at hlies
      replace LI : Hid (∀ w : World, Calls Try.prog 33 #[.int .i64 b, eV a n] w fun e w' => e = .returned (.bool true) ∧ w.alloc (eO a n) = w') := fun w => by have := LI w; rw [lies_yes hlies] at this; exact this
      obtain ⟨q1, q2, q3⟩ := hlies
      obtain ⟨⟨R, c⟩, hC⟩ : ∃ C, giveC b l (a, n) = C := ⟨_, rfl⟩
      have eC : giveC b l (a, n) = if hitsE l (a, n) then ([], 102) else (giveF (a, n) false l, 0) := by unfold giveC; rw [if_pos hc, if_pos HL.out]
      rw [hC] at eC ⊢
      simp only
      have HC := Lib.hid eC.symm
      clear hC eC hc hf
      go_enter Try.func16, Try.ntmps16
      go_wp2_with (first | (go_at_call 24; refine CK.out.mono ?_; rintro e w1 ⟨rfl, bb⟩; have r0 := keepH bb R0.out; have k0 : w1.cell? ⟨w.heap.size, 0, none⟩ = some (.int .i64 a) := (by rw [Joins.cell_of_block r0]; rfl); have k1 : w1.cell? ⟨w.heap.size, 1, none⟩ = some (.int .i64 n) := (by rw [Joins.cell_of_block r0]; rfl); have r1 := Lib.hid (heap_old (eO a n) trivial r0); have b01 : Below w.heap.size w (w1.alloc (eO a n)) := (b0.trans (bb.mono (by simp))).alloc (b0.trans (bb.mono (by simp))).size _; clear bb r0) | (go_at_call 33; refine (LI.out _).mono ?_; rintro e w' ⟨rfl, rfl⟩) | fail)
      clear CK k0 k1 LI
      obtain ⟨W, hW⟩ : ∃ W, w1.alloc (eO a n) = W := ⟨_, rfl⟩
      rw [hW] at r1 b01
      first | rw [hW] | skip
      clear hW
      go_loopw [25] (fun i wr => ∃ k : Nat, k ≤ l.length ∧ i = .int .i64 k ∧ NoHit l (a, n) k ∧ wr.heap[w.heap.size]? = some (eO a n) ∧ Below w.heap.size w wr) (fun i _ => l.length - (intOf i).toNat)
      case atStart => exact ⟨0, Nat.zero_le _, rfl, fun j _ h => by omega, r1.out, b01⟩
      case round =>
        obtain ⟨k, hk, rfl, hnot, hg, hbel⟩ := hrel
        have hsr := hbel.size
        have hsr1 : w.heap.size < wr.heap.size := (Array.getElem?_eq_some_iff.1 hg).1
        have k0 : wr.cell? ⟨w.heap.size, 0, none⟩ = some (.int .i64 a) := by rw [Joins.cell_of_block hg]; rfl
        have k1 : wr.cell? ⟨w.heap.size, 1, none⟩ = some (.int .i64 n) := by rw [Joins.cell_of_block hg]; rfl
        by_cases hlt : k < l.length
        · obtain ⟨ad, hAd, c0, c1, i1, i2⟩ := (HR.out.below hbel).2 k hlt
          subst hAd
          have hlie := (freeF_lies HF.out _ (List.getElem_mem hlt)).1
          have hmem := List.getElem_mem hlt
          have Hn := Lib.hid (fun (h : ¬ (l[k].1 < a + n ∧ a < l[k].1 + l[k].2)) => NoHit.next (e := (a, n)) hnot hlt h)
          have Hy := Lib.hid (fun (h : l[k].1 < a + n ∧ a < l[k].1 + l[k].2) => (show hitsE l (a, n) from ⟨l[k], hmem, h⟩))
          obtain ⟨⟨x, y⟩, ht⟩ : ∃ t, l[k] = t := ⟨_, rfl⟩
          rw [ht] at c0 c1 hlie Hn Hy
          unfold liesE at hlie
          simp only at c0 c1 hlie Hn Hy
          obtain ⟨p1, p2, p3⟩ := hlie
          have k0a := cell_old (eO x y) k0
          have k1a := cell_old (eO x y) k1
          have hg2 := heap_old (eO x y) trivial hg
          have s1 : IntKind.i64.wrap (a + n) = a + n := IntWalk.i64_in _ (by omega)
          have s2 : IntKind.i64.wrap (x + y) = x + y := IntWalk.i64_in _ (by omega)
          have G2 := Lib.hid hg2
          clear ht i1 i2 hmem hnot hg hg2
          by_cases h1 : x < a + n
          · have e1 : decide (x < a + n) = true := decide_eq_true h1
            by_cases h2 : a < x + y
            · have e2 : decide (a < x + y) = true := decide_eq_true h2
              have eC := HC.out
              rw [if_pos (Hy.out ⟨h1, h2⟩)] at eC
              simp only [Prod.mk.injEq] at eC
              obtain ⟨rfl, rfl⟩ := eC
              go_wp2
              go_ret2
              exact ⟨_, rfl, World.ownsRow_nil _ _ _ _, hbel.alloc hsr _⟩
            · have e2 : decide (a < x + y) = false := decide_eq_false h2
              have Hnn := Lib.hid (Hn.out (fun h => h2 h.2))
              clear h2
              go_wp2
              clear s1 s2 e1 e2
              go_roundw
              case rel => exact ⟨k + 1, by omega, by go_num, Hnn.out, G2.out, hbel.alloc hsr _⟩
              case measure => simp [intOf]; omega
          · have e1 : decide (x < a + n) = false := decide_eq_false h1
            have Hnn := Lib.hid (Hn.out (fun h => h1 h.1))
            clear h1
            go_wp2
            clear s1 s2 e1
            go_roundw
            case rel => exact ⟨k + 1, by omega, by go_num, Hnn.out, G2.out, hbel.alloc hsr _⟩
            case measure => simp [intOf]; omega
        · have eC := HC.out
          rw [if_neg (hnot.all (by omega))] at eC
          simp only [Prod.mk.injEq] at eC
          obtain ⟨hR, rfl⟩ := eC
          have HR2 := Lib.hid hR
          clear hR
          have bd : Below w.heap.size w (wr.alloc (.cells #[.bool false] 4)) := hbel.alloc hsr _
          have CH := Lib.hid (changed_step b l A cap a n w.heap.size wr.heap.size (wr.alloc (.cells #[.bool false] 4)) b2 HF.out HL.out (fun w' h => HR.out.below (Bes.below bd h (Nat.le_refl _) hsr bd.size)) hl (by omega) (heap_old _ trivial hg) (heap_new _ _ _ rfl))
          clear hg k0 k1
          go_upto_region 14 with (first | (go_at_call 34; refine CH.out.mono ?_; rintro e w2 ⟨v, a', n', d, p, rfl, hpl, hp, hl', hown, he2, hd2, bs⟩) | fail)
          have kd : w2.cell? ⟨wr.heap.size, 0, none⟩ = some (.bool d) := cell_of_one hd2
          have k0 : w2.cell? ⟨w.heap.size, 0, none⟩ = some (.int .i64 a') := by rw [Joins.cell_of_block he2]; rfl
          have k1 : w2.cell? ⟨w.heap.size, 1, none⟩ = some (.int .i64 n') := by rw [Joins.cell_of_block he2]; rfl
          have hb2 : Below w.heap.size w w2 := Bes.below bd bs (Nat.le_refl _) hsr bd.size
          have hs2 := hb2.size
          have HO := Lib.hid (own_up hown (show w.heap.size ≤ _ from bd.size))
          have Hp := Lib.hid hp.symm
          clear hown he2 hd2 bs CH hp
          cases d with
          | true =>
            have ep := HR2.out
            rw [Hp.out] at ep
            simp only [if_true, List.append_nil] at ep
            subst ep
            go_wp2
            go_ret2
            exact ⟨_, rfl, HO.out, hb2⟩
          | false =>
            have ep := HR2.out
            rw [Hp.out] at ep
            simp only [Bool.false_eq_true, if_false] at ep
            subst ep
            go_wp2_with (first | (at_builtin; go_loud (refine wpList_append_own _ rfl (.tmp 53) (.tmp 55) 22 rfl w.heap.size 25 i0 (.agg #[.int .i64 0, .int .i64 0]) 2 16 Try.underlying22 hi hz0 hz1 hz2 rfl (by decide) _ p.length _ rfl (HO.out.alloc _) ⟨w2.heap.size, 0, none⟩ 1 1 [.int .i64 (a'), .int .i64 (n')] rfl rfl (two_at _ _ _ _ _ (by simp)) (oneExt _ _) (by unfold maxLen; omega) (by omega) (by simp; omega) ?_; intro v' w3 hown' hgrow _; have hb3 : Below w.heap.size w w3 := (hb2.alloc hs2 _).grown hgrow (by simp; omega) (own_base' HO.out); have HO3 := Lib.hid hown'; clear hown' hgrow)) | fail)
            go_ret2
            have ho := HO3.out
            rw [show [Value.int IntKind.i64 a', Value.int IntKind.i64 n'] = [Value.int IntKind.i64 (a', n').1, Value.int IntKind.i64 (a', n').2] from rfl, extsV_snoc] at ho
            exact ⟨_, rfl, by simpa using ho, hb3⟩
    · replace LI : Hid (∀ w : World, Calls Try.prog 33 #[.int .i64 b, eV a n] w fun e w' => e = .returned (.bool false) ∧ w.alloc (eO a n) = w') := fun w => by have := LI w; rw [lies_no hlies] at this; exact this
      have eC : giveC b l (a, n) = ([], 100) := by unfold giveC; rw [if_pos hc, if_neg hlies]
      rw [eC]
      simp only
      clear eC hlies hc hf
      go_enter Try.func16, Try.ntmps16
      go_wp2_with (first | (go_at_call 24; refine CK.out.mono ?_; rintro e w1 ⟨rfl, bb⟩; have r0 := keepH bb R0.out; have k0 : w1.cell? ⟨w.heap.size, 0, none⟩ = some (.int .i64 a) := (by rw [Joins.cell_of_block r0]; rfl); have k1 : w1.cell? ⟨w.heap.size, 1, none⟩ = some (.int .i64 n) := (by rw [Joins.cell_of_block r0]; rfl); have b01 : Below w.heap.size w (w1.alloc (eO a n)) := (b0.trans (bb.mono (by simp))).alloc (b0.trans (bb.mono (by simp))).size _; clear bb r0) | (go_at_call 33; refine (LI.out _).mono ?_; rintro e w' ⟨rfl, rfl⟩) | fail)
      go_ret2
      exact ⟨_, rfl, World.ownsRow_nil _ _ _ _, b01⟩
  · have eC : giveC b l (a, n) = ([], checkE b l) := by unfold giveC; rw [if_neg hc]
    rw [eC]
    obtain ⟨c, hcc⟩ : ∃ c, checkE b l = c := ⟨_, rfl⟩
    have h3 := check_range b l
    rw [hcc] at CK hc h3 ⊢
    simp only
    have hd : decide (c = 0) = false := decide_eq_false hc
    clear hcc eC
    replace CK := Lib.hid CK
    go_enter Try.func16, Try.ntmps16
    go_wp2_with (first | (go_at_call 24; refine CK.out.mono ?_; rintro e w1 ⟨rfl, bb⟩) | fail)
    go_ret2
    exact ⟨_, rfl, World.ownsRow_nil _ _ _ _, b0.trans (bb.mono (by simp))⟩
end Go.Proofs.Ytglbcejcibohpaa
