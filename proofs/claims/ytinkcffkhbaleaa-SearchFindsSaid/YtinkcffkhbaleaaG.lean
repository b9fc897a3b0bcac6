import Derived.Test.YtinkcffkhbaleaaX
import Derived.Test.YtinkcffkhbaleaaD
/-! SearchFew. -/
namespace Go.Proofs.Ytinkcffkhbaleaa
open Go.RowKit
set_option linter.unusedVariables false
set_option linter.unusedSimpArgs false

theorem halves_mono (f : Nat) : ∀ a b, a ≤ b → halves f a ≤ halves f b := by
  induction f with
  | zero => intro a b _; simp [halves]
  | succ f ih =>
    intro a b hab
    unfold halves
    split
    · omega
    · rw [if_neg (by omega)]
      have := ih ((a + 1) / 2) ((b + 1) / 2) (by omega)
      omega
theorem told_up_most (lo hi q : Int) (h : okS lo hi) (h1 : hi ≠ lo + 1) (hq : q = lo + (hi - lo).tdiv 2) : okS q hi ∧ lo < q ∧ q < hi ∧ mostN (hi - q).toNat + 1 ≤ mostN (hi - lo).toNat := by
  obtain ⟨a, b, c⟩ := h
  rw [Int.tdiv_eq_ediv_of_nonneg (by omega)] at hq
  have e : (hi - q).toNat = (hi - lo).toNat - (hi - lo).toNat / 2 := by omega
  rw [e, mostN_down _ (by omega) (by omega)]
  exact ⟨⟨by omega, by omega, by omega⟩, by omega, by omega, Nat.le_refl _⟩
theorem told_down_most (lo hi q : Int) (h : okS lo hi) (h1 : hi ≠ lo + 1) (hq : q = lo + (hi - lo).tdiv 2) : okS lo q ∧ mostN (q - lo).toNat + 1 ≤ mostN (hi - lo).toNat := by
  obtain ⟨a, b, c⟩ := h
  rw [Int.tdiv_eq_ediv_of_nonneg (by omega)] at hq
  have e : (q - lo).toNat ≤ (hi - lo).toNat - (hi - lo).toNat / 2 := by omega
  have := halves_mono 31 _ _ e
  rw [← mostN_down (hi - lo).toNat (by omega) (by omega)]
  exact ⟨⟨by omega, by omega, by omega⟩, Nat.succ_le_succ this⟩
/-- The next span, whatever is answered. -/
theorem next_most (lo hi q : Int) (al : Bool) (h : okS lo hi) (h1 : hi ≠ lo + 1) (hq : q = lo + (hi - lo).tdiv 2) :
    ∃ lo' hi', toldS lo hi q al = (lo', hi') ∧ okS lo' hi' ∧ mostN (hi' - lo').toNat + 1 ≤ mostN (hi - lo).toNat := by
  obtain ⟨u, u1, u2, u3⟩ := told_up_most lo hi q h h1 hq
  obtain ⟨d, d1⟩ := told_down_most lo hi q h h1 hq
  have f : okS lo hi ∧ lo < q ∧ q < hi := ⟨h, u1, u2⟩
  cases al
  · exact ⟨lo, q, by simp [toldS, f], d, d1⟩
  · exact ⟨q, hi, by simp [toldS, f], u, u3⟩
theorem okBegin (a b : Int) : okS 0 (begHi a b) := by have := begHi_range a b; exact ⟨by omega, by omega, by omega⟩
theorem mostBegin (a b : Int) : mostS 0 (begHi a b) = (mostN (begHi a b - 0).toNat : Int) := by simp [mostS, okBegin]
abbrev EqT (x : Bool) (v : Value) : Prop := v = .bool x

set_option maxRecDepth 100000 in
set_option maxHeartbeats 4000000 in
theorem few_any (a b : Int) (l : List Bool) (A : Option Addr) (cap : Nat) (w : World) (ha : -9223372036854775808 ≤ a ∧ a ≤ 9223372036854775807) (hb : -9223372036854775808 ≤ b ∧ b ≤ 9223372036854775807) (hr : RdR EqT w A l) (hl : l.length ≤ cap) :
    Calls Try.prog 5 #[.int .i64 a, .int .i64 b, .slice A l.length cap] w fun e w' => e = .returned (.bool true) ∧ Below w.heap.size w w' := by
  obtain ⟨H0, hH0⟩ : ∃ H, begHi a b = H := ⟨_, rfl⟩
  obtain ⟨M, hM⟩ : ∃ M, mostN (H0 - 0).toNat = M := ⟨_, rfl⟩
  have hM31 : M ≤ 31 := by rw [← hM]; exact mostN_le _
  have hok0 : okS 0 H0 := by rw [← hH0]; exact okBegin a b
  have BG : ∀ w, Calls Try.prog 13 #[.int .i64 a, .int .i64 b] w fun e w' => e = .returned (spanV 0 H0) ∧ w.alloc (spanO 0 H0) = w' := by
    intro w
    have := begin_any a b w ha hb
    rwa [hH0] at this
  have MT : ∀ w, Calls Try.prog 20 #[spanV 0 H0] w fun e w' => e = .returned (.int .i64 (M : Int)) ∧ (w.alloc (spanO 0 H0)).alloc (spanO 0 H0) = w' := by
    intro w
    have := most_any 0 H0 w
    rwa [← hH0, mostBegin, hH0, hM] at this
  replace BG := Lib.hid BG
  replace MT := Lib.hid MT
  have Hr := Lib.hid hr
  have HM := Lib.hid hM
  have Hok := Lib.hid hok0
  have hlen := hr.1
  clear hH0 hM ha hb hr hok0
  go_enter Try.func5, Try.ntmps5
  go_upto_region 3 with (go_at_call 15; refine (awake_any _).mono ?_; rintro e w1 ⟨rfl, b1⟩)
  have s1 := b1.size
  go_upto_region 5 with (first | (go_at_call 13; refine (BG.out _).mono ?_; rintro e w' ⟨rfl, rfl⟩) | (go_at_call 20; refine (MT.out _).mono ?_; rintro e w' ⟨rfl, rfl⟩))
  obtain ⟨W, hW⟩ : ∃ W, W = (((w1.alloc (spanO 0 H0)).alloc (spanO 0 H0)).alloc (spanO 0 H0)).alloc (spanO 0 H0) := ⟨_, rfl⟩
  have bel : Below w.heap.size w W := by
    rw [hW]
    repeat first | exact b1 | refine Below.alloc ?_ (by first | exact s1 | (simp; omega)) _
  obtain ⟨g, hg⟩ : ∃ g, w1.heap.size + 1 = g := ⟨_, rfl⟩
  have c0 : W.cell? ⟨g, 0, none⟩ = some (.int .i64 0) := by rw [hW, ← hg]; simp [go_sem]
  have c1 : W.cell? ⟨g, 1, none⟩ = some (.int .i64 H0) := by rw [hW, ← hg]; simp [go_sem]
  have fr0 : W.frozen? ⟨g, 0, none⟩ = false := by rw [hW, ← hg]; simp [go_sem]
  have fr1 : W.frozen? ⟨g, 1, none⟩ = false := by rw [hW, ← hg]; simp [go_sem]
  have hgw : w.heap.size ≤ g := by omega
  rw [← hW, hg]
  clear hW hg b1 s1
  go_wp2
  go_loopw [9] (fun i wr => ∃ k : Nat, ∃ lo hi : Int, okS lo hi ∧ k + mostN (hi - lo).toNat ≤ M ∧ i = .int .i64 k ∧ Below w.heap.size w wr ∧ wr.cell? ⟨g, 0, none⟩ = some (.int .i64 lo) ∧ wr.cell? ⟨g, 1, none⟩ = some (.int .i64 hi) ∧ wr.frozen? ⟨g, 0, none⟩ = false ∧ wr.frozen? ⟨g, 1, none⟩ = false) (fun i _ => 32 - (intOf i).toNat)
  case atStart => exact ⟨0, 0, H0, Hok.out, by rw [HM.out]; omega, rfl, bel, c0, c1, fr0, fr1⟩
  case round =>
    obtain ⟨k, lo, hi, hok, hk, rfl, bw, d0, d1, f0, f1⟩ := hrel
    have hs := bw.size
    have hgr : g < wr.heap.size := World.block_lt_of_cell? wr _ d0
    have g1 : g < wr.heap.size + 1 := by omega
    have g2 : g < wr.heap.size + 2 := by omega
    have g3 : g < wr.heap.size + 3 := by omega
    have g4 : g < wr.heap.size + 4 := by omega
    have g5 : g < wr.heap.size + 5 := by omega
    by_cases h1 : hi = lo + 1
    · have hm : askV (askS lo hi) = .tuple #[.int .i64 0, .bool false] := by simp [askS, h1, askV]
      have hkM : k ≤ M := by omega
      have Hm := Lib.hid hm
      clear hm h1 hk hok
      go_wp2_with (go_at_call 16; refine (ask_any _ _ _).mono ?_; rintro e w' ⟨rfl, rfl⟩; rw [Hm.out])
      go_ret
      refine ⟨by show Ending.returned (.bool (decide ((M : Int) ≤ 31))) = _; rw [decide_eq_true (by omega)], ?_⟩
      repeat first | exact bw | refine Below.alloc ?_ (by first | exact hs | (simp; omega)) _
    · obtain ⟨q, hq⟩ : ∃ q, lo + (hi - lo).tdiv 2 = q := ⟨_, rfl⟩
      have hm : askV (askS lo hi) = .tuple #[.int .i64 q, .bool true] := by simp [askS, hok, h1, askV, hq]
      have hkM : k ≤ 31 := by omega
      have Hm := Lib.hid hm
      have N := Lib.hid (fun al => next_most lo hi q al hok h1 hq.symm)
      have Hk := Lib.hid hk
      clear hm h1 hk hok hq
      by_cases hlt : k < l.length
      · obtain ⟨ad, v, rfl, hc, hv⟩ := Hr.out.2 k hlt
        have hc' : wr.cell? (ad.add k) = some (.bool l[k]) := (bw.cell (World.block_lt_of_cell? w _ hc)).trans (hc.trans (by rw [hv]))
        obtain ⟨lo', hi', ht, hok', hm'⟩ := N.out l[k]
        have Ht := Lib.hid ht
        have Hm' := Lib.hid hm'
        generalize hL : l[k] = L at *
        clear ht hm' hv hc hL
        go_wp2_with (first | (go_at_call 16; refine (ask_any _ _ _).mono ?_; rintro e w' ⟨rfl, rfl⟩; have hc2 := cell_old (spanO lo hi) (cell_old (spanO lo hi) hc'); rw [Hm.out]) | (go_at_call 18; refine (told_any _ _ _ _ _).mono ?_; rintro e w' ⟨rfl, rfl⟩; rw [Ht.out]))
        go_roundw
        case rel =>
          refine ⟨k + 1, lo', hi', hok', by have := Hk.out; have := Hm'.out; omega, by go_num, ?_, ?_, ?_, ?_, ?_⟩
          · repeat first | exact bw | refine Below.setCell ?_ hgw _ | refine Below.alloc ?_ (by simp; omega) _
          · repeat with_reducible apply cell_old
            simp [go_sem, d0, d1]
          · repeat with_reducible apply cell_old
            simp [go_sem, d0, d1]
          · simp [go_sem, *]
          · simp [go_sem, *]
        case measure => simp [intOf]; omega
      · obtain ⟨lo', hi', ht, hok', hm'⟩ := N.out false
        have Ht := Lib.hid ht
        have Hm' := Lib.hid hm'
        clear ht hm'
        go_wp2_with (first | (go_at_call 16; refine (ask_any _ _ _).mono ?_; rintro e w' ⟨rfl, rfl⟩; rw [Hm.out]) | (go_at_call 18; refine (told_any _ _ _ _ _).mono ?_; rintro e w' ⟨rfl, rfl⟩; rw [Ht.out]))
        go_roundw
        case rel =>
          refine ⟨k + 1, lo', hi', hok', by have := Hk.out; have := Hm'.out; omega, by go_num, ?_, ?_, ?_, ?_, ?_⟩
          · repeat first | exact bw | refine Below.setCell ?_ hgw _ | refine Below.alloc ?_ (by simp; omega) _
          · repeat with_reducible apply cell_old
            simp [go_sem, d0, d1]
          · repeat with_reducible apply cell_old
            simp [go_sem, d0, d1]
          · simp [go_sem, *]
          · simp [go_sem, *]
        case measure => simp [intOf]; omega
end Go.Proofs.Ytinkcffkhbaleaa
