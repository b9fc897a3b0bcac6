import Derived.Test.YtinkcffkhbaleaaH
/-! The document's search. -/
namespace Go.Proofs.Ytinkcffkhbaleaa
open Go.RowKit
set_option linter.unusedVariables false
set_option linter.unusedSimpArgs false
/-- Are they alike at the q-th? -/
def alD (la lb : List (List (BitVec 8))) (q : Int) : Bool := la.getD (q - 1).toNat [] == lb.getD (q - 1).toNat []
theorem begHi_le (m n : Nat) : begHi m n ≤ (min m n : Nat) + 1 := by
  unfold begHi clipZ
  repeat' split
  all_goals omega
set_option maxRecDepth 100000 in
set_option maxHeartbeats 4000000 in
theorem rfind_any (la lb : List (List (BitVec 8))) (A B : Option Addr) (ca cb : Nat) (w : World) (ra : RdD w A la) (rb : RdD w B lb) (la3 : la.length ≤ 3000) (lb3 : lb.length ≤ 3000) (T : Int × Int × Nat) (hT : Ends (alD la lb) (0, begHi la.length lb.length, 0) T) :
    Calls Try.prog 24 #[.slice A la.length ca, .slice B lb.length cb] w fun e w' => e = .returned (.tuple #[.int .i64 T.1, .int .i64 (T.2.2 : Nat)]) ∧ Below w.heap.size w w' := by
  have hle := begHi_le la.length lb.length
  have hok0 := okBegin (la.length : Int) lb.length
  have BG := fun w => rbegin_any (la.length : Int) lb.length w (by omega) (by omega)
  generalize begHi (la.length : Int) lb.length = H0 at *
  replace BG := Lib.hid BG
  have HT := Lib.hid hT
  have HA := Lib.hid ra
  have HB := Lib.hid rb
  clear hT ra rb
  go_enter Try.func24, Try.ntmps24
  go_upto_region 2 with (first | (go_at_call 14; refine (BG.out _).mono ?_; rintro e w' ⟨rfl, rfl⟩))
  obtain ⟨W, hW⟩ : ∃ W, W = (w.alloc (spanO 0 H0)).alloc (spanO 0 H0) := ⟨_, rfl⟩
  have bel : Below w.heap.size w W := by
    rw [hW]
    exact ((Below.refl _ _).alloc (Nat.le_refl _) _).alloc (by simp) _
  obtain ⟨g, hg⟩ : ∃ g, w.heap.size + 1 = g := ⟨_, rfl⟩
  have c0 : W.cell? ⟨g, 0, none⟩ = some (.int .i64 0) := by rw [hW, ← hg]; simp [go_sem]
  have c1 : W.cell? ⟨g, 1, none⟩ = some (.int .i64 H0) := by rw [hW, ← hg]; simp [go_sem]
  have fr0 : W.frozen? ⟨g, 0, none⟩ = false := by rw [hW, ← hg]; simp [go_sem]
  have fr1 : W.frozen? ⟨g, 1, none⟩ = false := by rw [hW, ← hg]; simp [go_sem]
  have hgw : w.heap.size ≤ g := by omega
  rw [← hW, hg]
  clear hW hg
  go_wp2
  go_loopw [7] (fun i wr => ∃ (k : Nat) (lo hi : Int), okS lo hi ∧ hi ≤ (min la.length lb.length : Nat) + 1 ∧ k + mostN (hi - lo).toNat ≤ 31 ∧ Ends (alD la lb) (lo, hi, k) T ∧ i = .int .i64 k ∧ Below w.heap.size w wr ∧ wr.cell? ⟨g, 0, none⟩ = some (.int .i64 lo) ∧ wr.cell? ⟨g, 1, none⟩ = some (.int .i64 hi) ∧ wr.frozen? ⟨g, 0, none⟩ = false ∧ wr.frozen? ⟨g, 1, none⟩ = false) (fun i _ => 32 - (intOf i).toNat)
  case atStart => exact ⟨0, 0, H0, hok0, hle, by have := mostN_le (H0 - 0).toNat; omega, HT.out, rfl, bel, c0, c1, fr0, fr1⟩
  case round =>
    obtain ⟨k, lo, hi, hok, hhi, hk, hends, rfl, bw, d0, d1, f0, f1⟩ := hrel
    have hs := bw.size
    have hgr : g < wr.heap.size := World.block_lt_of_cell? wr _ d0
    have g1 : g < wr.heap.size + 1 := by omega
    have g2 : g < wr.heap.size + 2 := by omega
    have g3 : g < wr.heap.size + 3 := by omega
    have g4 : g < wr.heap.size + 4 := by omega
    have g5 : g < wr.heap.size + 5 := by omega
    have hkM : k ≤ 31 := by omega
    cases hq : askS lo hi with
    | none =>
      obtain rfl := hends.done hq
      have Hm := Lib.hid (show askV (askS lo hi) = .tuple #[.int .i64 0, .bool false] by rw [hq]; rfl)
      clear hends hq HT hok hk hhi
      go_wp2_with (go_at_call 17; refine (rask_any _ _ _).mono ?_; rintro e w' ⟨rfl, rfl⟩; rw [Hm.out])
      go_ret2
      refine ⟨rfl, ?_⟩
      repeat first | exact bw | refine Below.alloc ?_ (by first | exact hs | (simp; omega)) _
    | some q =>
      obtain ⟨_, h1, hqe⟩ := askS_some hq
      obtain ⟨_, u1, u2, _⟩ := told_up_most lo hi q hok h1 hqe
      have hok' := hok
      obtain ⟨x0, x1, x2⟩ := hok'
      have hends' := hends.step (by rw [hq]; simp)
      obtain ⟨lo', hi', ht, hst, hok2, hm2⟩ := stepT_some (al := alD la lb) (s := (lo, hi, k)) hq
      rw [hst] at hends' hm2
      have hlo' : hi' ≤ (min la.length lb.length : Nat) + 1 := by
        have : (toldS lo hi q (alD la lb q)).2 ≤ hi := by
          unfold toldS
          rw [if_pos ⟨hok, u1, u2⟩]
          split <;> simp <;> omega
        rw [ht] at this
        simp at this; omega
      have Hm := Lib.hid (show askV (askS lo hi) = .tuple #[.int .i64 q, .bool true] by rw [hq]; rfl)
      obtain ⟨j, hj⟩ : ∃ j : Nat, (q - 1).toNat = j := ⟨_, rfl⟩
      have hjq : q - 1 = (j : Int) := by omega
      have hja : j < la.length := by omega
      have hwj : IntKind.i64.wrap (j : Int) = (j : Int) := by rw [IntKind.wrap_i64]; omega
      have hjb : j < lb.length := by omega
      have hal : alD la lb q = (la[j] == lb[j]) := by
        unfold alD
        rw [hj]
        simp [List.getD_eq_getElem?_getD, List.getElem?_eq_getElem hja, List.getElem?_eq_getElem hjb]
      rw [hal] at ht
      obtain ⟨ad, rfl, _⟩ := HA.out.load j hja
      obtain ⟨bd, rfl, _⟩ := HB.out.load j hjb
      have LA : ∀ W, Below w.heap.size w W → (Instr.loadAt 47 (.pointer (some (ad.add (j * 32))))).run Try.prog W = .ok (.agg (digV la[j]).toArray) W := by
        intro W hb
        obtain ⟨ad', e, h⟩ := (HA.out.below hb).load j hja
        cases e; exact h
      have LB : ∀ W, Below w.heap.size w W → (Instr.loadAt 47 (.pointer (some (bd.add (j * 32))))).run Try.prog W = .ok (.agg (digV lb[j]).toArray) W := by
        intro W hb
        obtain ⟨ad', e, h⟩ := (HB.out.below hb).load j hjb
        cases e; exact h
      have EQ := eq_digs la[j] lb[j] (HA.out.2 j hja).1 (HB.out.2 j hjb).1
      have hjj : ((la.length : Nat) : Int) ≤ 3000 := by omega
      have hjk : (j : Int) < la.length := by omega
      have hjl : (j : Int) < lb.length := by omega
      generalize la[j] = X at *
      generalize lb[j] = Y at *
      generalize (X == Y) = E at *
      replace LA := Lib.hid LA
      replace LB := Lib.hid LB
      replace EQ := Lib.hid EQ
      have Ht := Lib.hid ht
      have Hrest := Lib.hid (And.intro hends' (And.intro hm2 (And.intro hok2 (And.intro hlo' hk))))
      clear hends hends' hst hm2 hq hqe ht hok hok2 hlo' hal h1 HT hj hk
      go_upto_region 8 with (first | (go_at_call 17; refine (rask_any _ _ _).mono ?_; rintro e w' ⟨rfl, rfl⟩; rw [Hm.out]))
      obtain ⟨V, hV⟩ : ∃ V, V = (wr.alloc (spanO lo hi)).alloc (spanO lo hi) := ⟨_, rfl⟩
      have bV : Below w.heap.size w V := by rw [hV]; exact (bw.alloc hs _).alloc (by simp; omega) _
      have v0 : V.cell? ⟨g, 0, none⟩ = some (.int .i64 lo) := by rw [hV]; exact cell_old _ (cell_old _ d0)
      have v1 : V.cell? ⟨g, 1, none⟩ = some (.int .i64 hi) := by rw [hV]; exact cell_old _ (cell_old _ d1)
      have vf0 : V.frozen? ⟨g, 0, none⟩ = false := by rw [hV]; simp [go_sem, f0, g1, hgr]
      have vf1 : V.frozen? ⟨g, 1, none⟩ = false := by rw [hV]; simp [go_sem, f1, g1, hgr]
      rw [← hV]
      have hsV := bV.size
      have hgV : g < V.heap.size := World.block_lt_of_cell? V _ v0
      have q1 : g < V.heap.size + 1 := by omega
      have q2 : g < V.heap.size + 2 := by omega
      have q3 : g < V.heap.size + 3 := by omega
      clear hV
      have hS0 : Below w.heap.size w V.drew := bV.drew
      refine wp_region_noPanic ?_
      refine wp_region_held_drew (S := Below w.heap.size w) (by kernel_rfl) hS0 (fun _ => ?_)
      refine wpAnyH_take (i := 1) (v := ?_) rfl (by kernel_rfl) (by kernel_rfl) (by kernel_rfl) (fun _ _ _ h => h) (Or.inl ⟨by kernel_rfl, ?_⟩) (hS0) ?_
      rotate_left
      · intro W hSw
        go_simp
        all_goals with_reducible rfl
      try simp only [Act.put, List.setIfInBounds_toArray, List.set_cons_zero, List.set_cons_succ]
      refine wpAnyH_take (i := 2) (v := ?_) rfl (by kernel_rfl) (by kernel_rfl) (by kernel_rfl) (fun _ _ _ h => h) (Or.inl ⟨by kernel_rfl, ?_⟩) (hS0) ?_
      rotate_left
      · intro W hSw
        go_simp
        all_goals with_reducible rfl
      try simp only [Act.put, List.setIfInBounds_toArray, List.set_cons_zero, List.set_cons_succ]
      refine wpAnyH_take (i := 3) (v := ?_) rfl (by kernel_rfl) (by kernel_rfl) (by kernel_rfl) (fun _ _ _ h => h) (Or.inl ⟨by kernel_rfl, ?_⟩) (hS0) ?_
      rotate_left
      · intro W hSw
        go_simp
        all_goals with_reducible rfl
      try simp only [Act.put, List.setIfInBounds_toArray, List.set_cons_zero, List.set_cons_succ]
      refine wpAnyH_take (i := 4) (v := .int .i64 (j : Int)) rfl (by kernel_rfl) (by kernel_rfl) (by kernel_rfl) (fun _ _ _ h => h) (Or.inl ⟨by kernel_rfl, ?_⟩) (hS0) ?_
      · intro W hSw
        go_simp
      try simp only [Act.put, List.setIfInBounds_toArray, List.set_cons_zero, List.set_cons_succ]
      refine wpAnyH_take (i := 5) (v := .pointer (some (ad.add (j * 32)))) rfl (by kernel_rfl) (by kernel_rfl) (by kernel_rfl) (fun _ _ _ h => h) (Or.inl ⟨by kernel_rfl, ?_⟩) (hS0) ?_
      · intro W hSw
        go_simp
      try simp only [Act.put, List.setIfInBounds_toArray, List.set_cons_zero, List.set_cons_succ]
      refine wpAnyH_take (i := 6) (v := .agg (digV X).toArray) rfl (by kernel_rfl) (by kernel_rfl) (by kernel_rfl) (fun _ _ _ h => h) (Or.inl ⟨by kernel_rfl, ?_⟩) (hS0) ?_
      · intro W hSw
        exact exec_load 47 (.tmp 34) (by kernel_rfl) (.pointer (some (ad.add (j * 32)))) (by kernel_rfl) _ (LA.out W hSw)
      try simp only [Act.put, List.setIfInBounds_toArray, List.set_cons_zero, List.set_cons_succ]
      refine wpAnyH_take (i := 7) (v := ?_) rfl (by kernel_rfl) (by kernel_rfl) (by kernel_rfl) (fun _ _ _ h => h) (Or.inl ⟨by kernel_rfl, ?_⟩) (hS0) ?_
      rotate_left
      · intro W hSw
        go_simp
        all_goals with_reducible rfl
      try simp only [Act.put, List.setIfInBounds_toArray, List.set_cons_zero, List.set_cons_succ]
      refine wpAnyH_take (i := 8) (v := ?_) rfl (by kernel_rfl) (by kernel_rfl) (by kernel_rfl) (fun _ _ _ h => h) (Or.inl ⟨by kernel_rfl, ?_⟩) (hS0) ?_
      rotate_left
      · intro W hSw
        go_simp
        all_goals with_reducible rfl
      try simp only [Act.put, List.setIfInBounds_toArray, List.set_cons_zero, List.set_cons_succ]
      refine wpAnyH_take (i := 9) (v := .int .i64 (j : Int)) rfl (by kernel_rfl) (by kernel_rfl) (by kernel_rfl) (fun _ _ _ h => h) (Or.inl ⟨by kernel_rfl, ?_⟩) (hS0) ?_
      · intro W hSw
        go_simp
      try simp only [Act.put, List.setIfInBounds_toArray, List.set_cons_zero, List.set_cons_succ]
      refine wpAnyH_take (i := 10) (v := .pointer (some (bd.add (j * 32)))) rfl (by kernel_rfl) (by kernel_rfl) (by kernel_rfl) (fun _ _ _ h => h) (Or.inl ⟨by kernel_rfl, ?_⟩) (hS0) ?_
      · intro W hSw
        go_simp
      try simp only [Act.put, List.setIfInBounds_toArray, List.set_cons_zero, List.set_cons_succ]
      refine wpAnyH_take (i := 11) (v := .agg (digV Y).toArray) rfl (by kernel_rfl) (by kernel_rfl) (by kernel_rfl) (fun _ _ _ h => h) (Or.inl ⟨by kernel_rfl, ?_⟩) (hS0) ?_
      · intro W hSw
        exact exec_load 47 (.tmp 39) (by kernel_rfl) (.pointer (some (bd.add (j * 32)))) (by kernel_rfl) _ (LB.out W hSw)
      try simp only [Act.put, List.setIfInBounds_toArray, List.set_cons_zero, List.set_cons_succ]
      refine wpAnyH_take (i := 12) (v := .bool E) rfl (by kernel_rfl) (by kernel_rfl) (by kernel_rfl) (fun _ _ _ h => h) (Or.inl ⟨by kernel_rfl, ?_⟩) (hS0) ?_
      · intro W hSw
        have heq := EQ.out W
        go_simp
      try simp only [Act.put, List.setIfInBounds_toArray, List.set_cons_zero, List.set_cons_succ]
      refine wpAnyH_ready (rs := [0]) (by kernel_rfl) (by simp) ?_
      refine AllReadyH.cons rfl (fun K hK => ?_) AllReadyH.nil
      go_simp
      refine hK.out _ _ (hS0) (fun _ => ?_)
      clear hK K
      try simp only [Act.put, List.setIfInBounds_toArray, List.set_cons_zero, List.set_cons_succ]
      refine wpAnyH_ready (rs := [13]) (by kernel_rfl) (by simp) ?_
      refine AllReadyH.cons rfl (fun K hK => ?_) AllReadyH.nil
      go_simp
      refine (rtold_any lo hi q E _).mono ?_
      rintro e w' ⟨rfl, rfl⟩
      rw [Ht.out]
      go_wp2_with fail
      refine hK.out _ _ (by repeat first | exact bV | refine Below.drew ?_ | refine Below.setCell ?_ hgw _ | refine Below.alloc ?_ (by first | exact hsV | (simp; omega)) _) (fun _ => ?_)
      clear hK K
      try simp only [Act.put, List.setIfInBounds_toArray, List.set_cons_zero, List.set_cons_succ]
      refine wpAnyH_ready (rs := [14]) (by kernel_rfl) (by simp) ?_
      refine AllReadyH.cons rfl (fun K hK => ?_) AllReadyH.nil
      go_simp
      refine hK.out _ _ (by repeat first | exact bV | refine Below.drew ?_ | refine Below.setCell ?_ hgw _ | refine Below.alloc ?_ (by first | exact hsV | (simp; omega)) _) (fun _ => ?_)
      clear hK K
      try simp only [Act.put, List.setIfInBounds_toArray, List.set_cons_zero, List.set_cons_succ]
      refine wpAnyH_done (by kernel_rfl) ?_ _
      refine NoPanic.normal ?_
      obtain ⟨U, hU⟩ : ∃ U, U = (((((V.setCell { block := g, off := 0 } (Value.int IntKind.i64 lo')).setCell { block := g, off := 1 } (Value.int IntKind.i64 hi')).alloc (spanO lo hi)).alloc (spanO lo' hi')).alloc (spanO lo hi)).drew := ⟨_, rfl⟩
      have bU : Below w.heap.size w U := by
        rw [hU]
        repeat first | exact bV | refine Below.drew ?_ | refine Below.setCell ?_ hgw _ | refine Below.alloc ?_ (by first | exact hsV | (simp; omega)) _
      have u0 : U.cell? ⟨g, 0, none⟩ = some (.int .i64 lo') := by
        rw [hU]
        refine keepD ?_
        repeat with_reducible apply cell_old
        simp [go_sem, v0, v1]
      have u1' : U.cell? ⟨g, 1, none⟩ = some (.int .i64 hi') := by
        rw [hU]
        refine keepD ?_
        repeat with_reducible apply cell_old
        simp [go_sem, v0, v1]
      have uf0 : U.frozen? ⟨g, 0, none⟩ = false := by rw [hU]; simp [go_sem, *]
      have uf1 : U.frozen? ⟨g, 1, none⟩ = false := by rw [hU]; simp [go_sem, *]
      rw [← hU]
      clear hU
      go_wp2
      go_roundw
      case rel =>
        obtain ⟨e1, e2, e3, e4, e5⟩ := Hrest.out
        exact ⟨k + 1, lo', hi', e3, e4, by simp only [leftT] at e2; omega, e1, by go_num, bU, u0, u1', uf0, uf1⟩
      case measure => simp [intOf]; omega
end Go.Proofs.Ytinkcffkhbaleaa
