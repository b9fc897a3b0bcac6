import Derived.Test.YtglbcejcibohpaaP
/-! Claim; what is taken and given back. -/
namespace Go.Proofs.Ytglbcejcibohpaa
open Go.RowKit
set_option linter.unusedVariables false
set_option linter.unusedSimpArgs false
/-- A row without some blocks, or why not. -/
def claimC (b : Int) (l : List Ext) (e : Ext) : List Ext × Int :=
  if checkE b l = 0 then (if liesE b e then (if hasB l e.1 e.2 = true then (withoutE l e, 0) else ([], 102)) else ([], 100)) else ([], checkE b l)
theorem has_of {b : Int} {e : Ext} (he : 1 ≤ e.2) : ∀ {l : List Ext} {p : Int}, freeF b p l → (∀ k, inE e k → memE l k) → hasE l e
  | [], _, _, h => absurd (h e.1 ⟨Int.le_refl _, by omega⟩) (memE_nil _)
  | x :: l, p, hf, h => by
    have hx := hf.1
    unfold liesE at hx
    by_cases h1 : inE x e.1
    · by_cases h2 : e.1 + e.2 ≤ x.1 + x.2
      · exact ⟨x, by simp, h1.1, h2⟩
      · have h3 := h (x.1 + x.2) ⟨by unfold inE at h1; omega, by omega⟩
        rw [memE_cons] at h3
        rcases h3 with h3 | h3
        · unfold inE at h3; omega
        · have := (freeF_mem hf.2 h3).1; omega
    · have h4 := h e.1 ⟨Int.le_refl _, by omega⟩
      rw [memE_cons] at h4
      rcases h4 with h4 | h4
      · exact absurd h4 h1
      · have h5 := (freeF_mem hf.2 h4).1
        obtain ⟨f, hf1, hf2⟩ := has_of he hf.2 (fun k hk => by
          have h6 := h k hk
          rw [memE_cons] at h6
          rcases h6 with h6 | h6
          · unfold inE at h6 hk; omega
          · exact h6)
        exact ⟨f, by simp [hf1], hf2⟩
theorem fits_some {n : Int} {e : Ext} : ∀ {l : List Ext}, fitsE l n = some e → e ∈ l ∧ n ≤ e.2
  | [], h => by simp [fitsE] at h
  | x :: l, h => by
    rw [fitsE] at h
    split at h
    · rename_i hc
      obtain rfl := Option.some.inj h
      exact ⟨by simp, hc⟩
    · obtain ⟨h1, h2⟩ := fits_some h
      exact ⟨by simp [h1], h2⟩
theorem give_ok {b : Int} {l : List Ext} {e : Ext} (hb : 0 ≤ b ∧ b ≤ 4096) (h : freeE b l) (he : liesE b e) (hn : ¬ hitsE l e) : giveC b l e = (giveF e false l, 0) := by
  unfold giveC; rw [if_pos (check_yes hb h), if_pos he, if_neg hn]
theorem give_free' {b : Int} {l : List Ext} {e : Ext} (h : freeE b l) (he : liesE b e) (hn : ¬ hitsE l e) : freeE b (giveF e false l) ∧ ∀ k, memE (giveF e false l) k ↔ memE l k ∨ inE e k :=
  give_free h he (by have := he.1; omega) hn
theorem give_taken {b : Int} {l : List Ext} {e : Ext} (hb : 0 ≤ b ∧ b ≤ 4096) (h : freeE b l) (he : liesE b e) (hh : hasE l e) : freeE b (withoutE l e) ∧ giveC b (withoutE l e) e = (l, 0) := by
  have h1 : freeE b (withoutE l e) := without_free he.2.1 h
  have hm := mem_without h he.2.1 hh
  have hn : ¬ hitsE (withoutE l e) e := fun hx => by
    obtain ⟨k, hk1, hk2⟩ := (hits_iff h1 he.2.1).1 hx
    exact ((hm k).1 hk2).2 hk1
  refine ⟨h1, ?_⟩
  rw [give_ok hb h1 he hn]
  obtain ⟨h2, h3⟩ := give_free' h1 he hn
  rw [row_unique b hb.1 _ l h2 h (fun k _ _ => ?_)]
  rw [h3, hm]
  constructor
  · rintro (h4 | h4)
    · exact h4.1
    · obtain ⟨f, hf, hf2⟩ := hh
      exact ⟨f, hf, by unfold holdsE at hf2; unfold inE at h4 ⊢; omega⟩
  · intro h4
    by_cases hk : inE e k
    · exact Or.inr hk
    · exact Or.inl ⟨h4, hk⟩
theorem take_cases (b : Int) (l : List Ext) (n : Int) : (∃ x, takeC b l n = ((x, n), withoutE l (x, n), 0) ∧ giveC b (withoutE l (x, n)) (x, n) = (l, 0) ∧ (0 ≤ b ∧ b ≤ 4096) ∧ freeE b l ∧ freeE b (withoutE l (x, n)) ∧ liesE b (x, n)) ∨ (∃ c, takeC b l n = ((0, 0), [], c) ∧ 1 ≤ c ∧ c ≤ 101) := by
  unfold takeC
  by_cases hc : checkE b l = 0
  · obtain ⟨hb, hf⟩ := check_zero hc
    rw [if_pos hc]
    by_cases hn : n < 1
    · rw [if_pos hn]; exact Or.inr ⟨1, rfl, by omega, by omega⟩
    · rw [if_neg hn]
      cases hT : fitsE l n with
      | none => exact Or.inr ⟨101, rfl, by omega, by omega⟩
      | some e =>
        obtain ⟨h1, h2⟩ := fits_some hT
        have hl := (freeF_lies hf e h1).1
        unfold liesE at hl
        have hL : liesE b (e.1, n) := by unfold liesE; simp only; omega
        obtain ⟨h3, h4⟩ := give_taken hb hf hL ⟨e, h1, by simp only; omega, by simp only; omega⟩
        exact Or.inl ⟨e.1, rfl, h4, hb, hf, h3, hL⟩
  · rw [if_neg hc]
    have := check_range b l
    exact Or.inr ⟨_, rfl, by omega, by omega⟩
theorem claim_ok {b : Int} {l : List Ext} {e : Ext} (hb : 0 ≤ b ∧ b ≤ 4096) (h : freeE b l) (he : liesE b e) (hh : hasE l e) : claimC b l e = (withoutE l e, 0) := by
  have hL : liesE 4096 (e.1, e.2) := ⟨he.1, he.2.1, by have := he.2.2; have := hb.2; simp only; omega⟩
  unfold claimC
  rw [if_pos (check_yes hb h), if_pos he, if_pos (has_yes (freeF_wide hb.2 h) hL hh)]
theorem give_cases (b : Int) (l : List Ext) (e : Ext) : (∃ r, giveC b l e = (r, 0) ∧ claimC b r e = (l, 0) ∧ (0 ≤ b ∧ b ≤ 4096) ∧ freeE b l ∧ freeE b r) ∨ (∃ c, giveC b l e = ([], c) ∧ 1 ≤ c ∧ c ≤ 102) := by
  by_cases hc : checkE b l = 0
  · obtain ⟨hb, hf⟩ := check_zero hc
    by_cases he : liesE b e
    · by_cases hn : hitsE l e
      · exact Or.inr ⟨102, by unfold giveC; rw [if_pos hc, if_pos he, if_pos hn], by omega, by omega⟩
      · obtain ⟨h1, h2⟩ := give_free' hf he hn
        have hh : hasE (giveF e false l) e := has_of he.2.1 h1 (fun k hk => (h2 k).2 (Or.inr hk))
        refine Or.inl ⟨_, give_ok hb hf he hn, ?_, hb, hf, h1⟩
        rw [claim_ok hb h1 he hh]
        have h3 : freeE b (withoutE (giveF e false l) e) := without_free he.2.1 h1
        have hm := mem_without h1 he.2.1 hh
        rw [row_unique b hb.1 _ l h3 hf (fun k _ _ => ?_)]
        rw [hm, h2]
        constructor
        · rintro ⟨h4 | h4, h5⟩
          · exact h4
          · exact absurd h4 h5
        · exact fun h4 => ⟨Or.inl h4, fun h5 => hn ((hits_iff hf he.2.1).2 ⟨k, h5, h4⟩)⟩
    · exact Or.inr ⟨100, by unfold giveC; rw [if_pos hc, if_neg he], by omega, by omega⟩
  · have := check_range b l
    exact Or.inr ⟨checkE b l, by unfold giveC; rw [if_neg hc], by omega, by omega⟩
set_option maxRecDepth 100000 in
set_option maxHeartbeats 4000000 in
theorem claim_any (b : Int) (l : List Ext) (A : Option Addr) (cap : Nat) (a n : Int) (w : World) (hb : I64 b) (ha : I64 a) (hn : I64 n) (hr : RdE w A l) (hl : l.length ≤ cap) :
    Calls Try.prog 18 #[.int .i64 b, .slice A l.length cap, eV a n] w fun e w' => ∃ v, e = .returned (.tuple #[v, .int .i64 (claimC b l (a, n)).2]) ∧ w'.ownsRow w.heap.size 25 2 v (claimC b l (a, n)).1.length (extsV (claimC b l (a, n)).1) ∧ Below w.heap.size w w' := by
  have b0 : Below w.heap.size w (w.alloc (eO a n)) := (Below.refl _ _).alloc (Nat.le_refl _) _
  have CK := check_any b l A cap (w.alloc (eO a n)) hb (hr.below b0) hl
  have HR := Lib.hid hr
  have hm := hr.1
  have R0 := Lib.hid (heap_new w (eO a n) w.heap.size rfl)
  clear hr
  by_cases hc : checkE b l = 0
  · have hb' := (check_zero hc).1
    have hf := (check_zero hc).2
    have b2 := hb'.2
    rw [hc] at CK
    have HF := Lib.hid hf
    have LI := fun w => lies_any b a n w hb' ha hn
    replace CK := Lib.hid CK
    by_cases hlies : liesE b (a, n)
    · have hlies' := hlies
      unfold liesE at hlies'
      simp only at hlies'
      replace LI : Hid (∀ w : World, Calls Try.prog 33 #[.int .i64 b, eV a n] w fun e w' => e = .returned (.bool true) ∧ w.alloc (eO a n) = w') := fun w => by have := LI w; rw [lies_yes hlies'] at this; exact this
      have HX := Lib.hid (fun w' (h : Below w.heap.size w w') => has_any l A cap a n w' (HR.out.below h) hl ha hn)
      cases hh : hasB l a n with
      | false =>
        have eC : claimC b l (a, n) = ([], 102) := by unfold claimC; rw [if_pos hc, if_pos hlies, if_neg (by rw [hh]; decide)]
        rw [eC]
        rw [hh] at HX
        simp only
        clear eC hlies hlies' hc hf hh
        go_enter Try.func18, Try.ntmps18
        go_wp2_with (first | (go_at_call 24; refine CK.out.mono ?_; rintro e w1 ⟨rfl, bb⟩; have r0 := keepH bb R0.out; have k0 : w1.cell? ⟨w.heap.size, 0, none⟩ = some (.int .i64 a) := (by rw [Joins.cell_of_block r0]; rfl); have k1 : w1.cell? ⟨w.heap.size, 1, none⟩ = some (.int .i64 n) := (by rw [Joins.cell_of_block r0]; rfl); have k0' := cell_old (eO a n) k0; have k1' := cell_old (eO a n) k1; have r1 := Lib.hid (heap_old (eO a n) trivial r0); have b01 : Below w.heap.size w (w1.alloc (eO a n)) := (b0.trans (bb.mono (by simp))).alloc (b0.trans (bb.mono (by simp))).size _; clear bb r0) | (go_at_call 33; refine (LI.out _).mono ?_; rintro e w' ⟨rfl, rfl⟩) | (go_at_call 25; refine (HX.out _ b01).mono ?_; rintro e w2 ⟨rfl, b12⟩; have r2 := keepH b12 r1.out; have k0 : w2.cell? ⟨w.heap.size, 0, none⟩ = some (.int .i64 a) := (by rw [Joins.cell_of_block r2]; rfl); have k1 : w2.cell? ⟨w.heap.size, 1, none⟩ = some (.int .i64 n) := (by rw [Joins.cell_of_block r2]; rfl); have b02 : Below w.heap.size w w2 := b01.trans (b12.mono b01.size); clear b12 r2) | fail)
        go_ret2
        exact ⟨_, rfl, World.ownsRow_nil _ _ _ _, b02⟩
      | true =>
        have eC : claimC b l (a, n) = (withoutE l (a, n), 0) := by unfold claimC; rw [if_pos hc, if_pos hlies, if_pos hh]
        rw [eC]
        rw [hh] at HX
        simp only
        have WO := Lib.hid (fun w' (h : Below w.heap.size w w') => without_any b l A cap a n w' b2 HF.out (by unfold liesE; simp only; omega) (HR.out.below h) hl)
        clear eC hlies hlies' hc hf hh
        go_enter Try.func18, Try.ntmps18
        go_wp2_with (first | (go_at_call 24; refine CK.out.mono ?_; rintro e w1 ⟨rfl, bb⟩; have r0 := keepH bb R0.out; have k0 : w1.cell? ⟨w.heap.size, 0, none⟩ = some (.int .i64 a) := (by rw [Joins.cell_of_block r0]; rfl); have k1 : w1.cell? ⟨w.heap.size, 1, none⟩ = some (.int .i64 n) := (by rw [Joins.cell_of_block r0]; rfl); have k0' := cell_old (eO a n) k0; have k1' := cell_old (eO a n) k1; have r1 := Lib.hid (heap_old (eO a n) trivial r0); have b01 : Below w.heap.size w (w1.alloc (eO a n)) := (b0.trans (bb.mono (by simp))).alloc (b0.trans (bb.mono (by simp))).size _; clear bb r0) | (go_at_call 33; refine (LI.out _).mono ?_; rintro e w' ⟨rfl, rfl⟩) | (go_at_call 25; refine (HX.out _ b01).mono ?_; rintro e w2 ⟨rfl, b12⟩; have r2 := keepH b12 r1.out; have k0 : w2.cell? ⟨w.heap.size, 0, none⟩ = some (.int .i64 a) := (by rw [Joins.cell_of_block r2]; rfl); have k1 : w2.cell? ⟨w.heap.size, 1, none⟩ = some (.int .i64 n) := (by rw [Joins.cell_of_block r2]; rfl); have b02 : Below w.heap.size w w2 := b01.trans (b12.mono b01.size); clear b12 r2) | (go_at_call 31; refine (WO.out _ b02).mono ?_; rintro e w3 ⟨v, rfl, hv, b23⟩; have HV := Lib.hid (own_up hv b02.size); have b03 : Below w.heap.size w w3 := b02.trans (b23.mono b02.size); clear hv b23) | fail)
        go_ret2
        exact ⟨_, rfl, HV.out, b03⟩
    · replace LI : Hid (∀ w : World, Calls Try.prog 33 #[.int .i64 b, eV a n] w fun e w' => e = .returned (.bool false) ∧ w.alloc (eO a n) = w') := fun w => by have := LI w; rw [lies_no hlies] at this; exact this
      have eC : claimC b l (a, n) = ([], 100) := by unfold claimC; rw [if_pos hc, if_neg hlies]
      rw [eC]
      simp only
      clear eC hlies hc hf
      go_enter Try.func18, Try.ntmps18
      go_wp2_with (first | (go_at_call 24; refine CK.out.mono ?_; rintro e w1 ⟨rfl, bb⟩; have r0 := keepH bb R0.out; have k0 : w1.cell? ⟨w.heap.size, 0, none⟩ = some (.int .i64 a) := (by rw [Joins.cell_of_block r0]; rfl); have k1 : w1.cell? ⟨w.heap.size, 1, none⟩ = some (.int .i64 n) := (by rw [Joins.cell_of_block r0]; rfl); have k0' := cell_old (eO a n) k0; have k1' := cell_old (eO a n) k1; have r1 := Lib.hid (heap_old (eO a n) trivial r0); have b01 : Below w.heap.size w (w1.alloc (eO a n)) := (b0.trans (bb.mono (by simp))).alloc (b0.trans (bb.mono (by simp))).size _; clear bb r0) | (go_at_call 33; refine (LI.out _).mono ?_; rintro e w' ⟨rfl, rfl⟩) | fail)
      go_ret2
      exact ⟨_, rfl, World.ownsRow_nil _ _ _ _, b01⟩
  · have eC : claimC b l (a, n) = ([], checkE b l) := by unfold claimC; rw [if_neg hc]
    rw [eC]
    obtain ⟨c, hcc⟩ : ∃ c, checkE b l = c := ⟨_, rfl⟩
    have h3 := check_range b l
    rw [hcc] at CK hc h3 ⊢
    simp only
    have hd : decide (c = 0) = false := decide_eq_false hc
    clear hcc eC
    replace CK := Lib.hid CK
    go_enter Try.func18, Try.ntmps18
    go_wp2_with (first | (go_at_call 24; refine CK.out.mono ?_; rintro e w1 ⟨rfl, bb⟩) | fail)
    go_ret2
    exact ⟨_, rfl, World.ownsRow_nil _ _ _ _, b0.trans (bb.mono (by simp))⟩
end Go.Proofs.Ytglbcejcibohpaa
