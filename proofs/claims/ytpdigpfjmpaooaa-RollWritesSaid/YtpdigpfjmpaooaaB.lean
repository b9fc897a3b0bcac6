import Derived.Test.YtpdigpfjmpaooaaA
import Derived.Test.YtpdigpfjmpaooaaI2
/-! The document's Next and Cuts. -/
namespace Go.Proofs.Ytpdigpfjmpaooaa
open Go.RowKit
set_option linter.unusedVariables false
set_option linter.unusedSimpArgs false
theorem next_bad (le mo bi : Int) (v : Value) (w : World) (hok : ¬ okC le mo bi) :
    Calls Try.prog 11 #[confV le mo bi, v] w fun e w' => e = .returned (.tuple #[.int .i64 0, .bool false, .int .i64 80]) ∧ Below w.heap.size w w' := by
  have HC := Lib.hid (show checkC le mo bi = 80 by rw [checkC, if_neg hok])
  clear hok
  go_enter Try.func11, Try.ntmps11
  go_wp2_with (go_at_call 17; refine (check_any le mo bi _).mono ?_; rintro e w' ⟨rfl, rfl⟩; rw [HC.out])
  go_ret3
  exact ⟨rfl, ((Below.refl _ _).alloc (Nat.le_refl _) _).alloc (by simp) _⟩
theorem rnext_bad (le mo bi : Int) (v : Value) (w : World) (hok : ¬ okC le mo bi) :
    Calls Try.prog 12 #[confV le mo bi, v] w fun e w' => e = .returned (.tuple #[.int .i64 0, .bool false, .int .i64 80]) ∧ Below w.heap.size w w' := by
  have HC := Lib.hid (show checkC le mo bi = 80 by rw [checkC, if_neg hok])
  clear hok
  go_enter Try.func12, Try.ntmps12
  go_wp2_with (go_at_call 16; refine (rcheck_any le mo bi _).mono ?_; rintro e w' ⟨rfl, rfl⟩; rw [HC.out])
  go_ret3
  exact ⟨rfl, ((Below.refl _ _).alloc (Nat.le_refl _) _).alloc (by simp) _⟩
theorem rnextE_any (le mo bi : Int) (l : List (BitVec 8)) (A : Option Addr) (cap : Nat) (w : World) (hok : okC le mo bi) (hr : RdB w A l) (hl : l.length ≤ cap) :
    Calls Try.prog 12 #[confV le mo bi, .slice A l.length cap] w fun e w' => e = .returned (.tuple #[.int .i64 ((nextL le mo bi l 0 0).1 : Nat), .bool (nextL le mo bi l 0 0).2, .int .i64 0]) ∧ Below w.heap.size w w' := by
  have HC := Lib.hid (show checkC le mo bi = 0 by rw [checkC, if_pos hok])
  have NX := fun w hr => rnext_any le mo bi l A cap w hok hr hl
  obtain ⟨T, hT⟩ : ∃ T, nextL le mo bi l 0 0 = T := ⟨_, rfl⟩
  rw [hT] at NX ⊢
  replace NX := Lib.hid NX
  clear hok hT
  have b1 : Below w.heap.size w ((w.alloc (confO le mo bi)).alloc (confO le mo bi)) := ((Below.refl _ _).alloc (Nat.le_refl _) _).alloc (by simp) _
  have hr2 : RdB _ A l := RdR.below (R' := EqB) hr b1 (fun _ _ h => h)
  go_enter Try.func12, Try.ntmps12
  go_wp2_with (first | (go_at_call 16; refine (rcheck_any le mo bi _).mono ?_; rintro e w' ⟨rfl, rfl⟩; rw [HC.out]) | (go_at_call 31; refine (NX.out _ hr2).mono ?_; rintro e w2 ⟨rfl, b2⟩))
  go_ret3
  exact ⟨rfl, b1.trans (b2.mono (by simp; omega))⟩
/-- How many bytes the chunks have. -/
def cutsF (le mo bi : Int) : Nat → List (BitVec 8) → List Nat
  | 0, _ => []
  | _ + 1, [] => []
  | f + 1, x :: l => (nextL le mo bi (x :: l) 0 0).1 :: cutsF le mo bi f ((x :: l).drop (nextL le mo bi (x :: l) 0 0).1)
theorem nextL_pos (le mo bi : Int) (hok : okC le mo bi) (l : List (BitVec 8)) (hl : 0 < l.length) : 1 ≤ (nextL le mo bi l 0 0).1 ∧ (nextL le mo bi l 0 0).1 ≤ l.length := by
  obtain ⟨h1, h2, h3, h4, h5⟩ := id hok
  obtain ⟨a, b, c, d, e⟩ := nextL_bounds le mo bi hok l 0 0 (by simp; omega)
  cases hT : (nextL le mo bi l 0 0).2 with
  | true => have := (d hT).2; omega
  | false => have := e hT; omega
theorem cutsF_more (le mo bi : Int) (hok : okC le mo bi) : ∀ (f g : Nat) (l : List (BitVec 8)), l.length ≤ f → l.length ≤ g → cutsF le mo bi f l = cutsF le mo bi g l
  | 0, 0, _, _, _ => rfl
  | 0, g + 1, l, hf, _ => by
    obtain rfl : l = [] := List.eq_nil_of_length_eq_zero (by omega)
    rfl
  | f + 1, 0, l, _, hg => by
    obtain rfl : l = [] := List.eq_nil_of_length_eq_zero (by omega)
    rfl
  | f + 1, g + 1, [], _, _ => rfl
  | f + 1, g + 1, x :: l, hf, hg => by
    have hp := nextL_pos le mo bi hok (x :: l) (by simp)
    unfold cutsF
    rw [cutsF_more le mo bi hok f g _ (by rw [List.length_drop]; omega) (by rw [List.length_drop]; omega)]
def cutsL (le mo bi : Int) (l : List (BitVec 8)) : List Nat := cutsF le mo bi l.length l
theorem cutsL_nil (le mo bi : Int) : cutsL le mo bi [] = [] := rfl
theorem cutsL_cons (le mo bi : Int) (hok : okC le mo bi) (l : List (BitVec 8)) (hl : 0 < l.length) : cutsL le mo bi l = (nextL le mo bi l 0 0).1 :: cutsL le mo bi (l.drop (nextL le mo bi l 0 0).1) := by
  cases l with
  | nil => simp at hl
  | cons x l =>
    have hp := nextL_pos le mo bi hok (x :: l) (by simp)
    show (nextL le mo bi (x :: l) 0 0).1 :: cutsF le mo bi l.length _ = _
    rw [cutsL, cutsF_more le mo bi hok l.length _ _ (by rw [List.length_drop]; simp at hp ⊢; omega) (Nat.le_refl _)]
def numsV (l : List Nat) : List Value := l.map fun (x : Nat) => Value.int .i64 (x : Int)
theorem numsV_snoc (l : List Nat) (x : Nat) : numsV l ++ [.int .i64 (x : Int)] = numsV (l ++ [x]) := by simp [numsV]
theorem oneI (x : Int) : ∀ u ∈ [Value.int .i64 x], u.oneCell' = true := by intro u hu; simp at hu; subst hu; rfl
theorem info3 : (Try.prog.info? 3).map (fun i => (i.zero, i.size, i.bytes)) = some (some (.int .i64 0), 1, 8) := by kernel_rfl
theorem own_below {w w' : World} {B e size n : Nat} {v : Value} {xs : List Value} (h : w.ownsRow B e size v n xs) (hb : Below w.heap.size w w') : w'.ownsRow B e size v n xs := by
  refine ⟨h.1, ?_⟩
  rcases h.2 with hn | ⟨g, cap, cur, rfl, hb1, hgg, rest⟩
  · exact .inl hn
  · refine .inr ⟨g, cap, cur, rfl, hb1, ?_, rest⟩
    rw [hb.block g (Array.getElem?_eq_some_iff.1 hgg).1]
    exact hgg
theorem own_mono {w : World} {B B' e size n : Nat} {v : Value} {xs : List Value} (h : w.ownsRow B e size v n xs) (hb : B' ≤ B) : w.ownsRow B' e size v n xs := by
  refine ⟨h.1, ?_⟩
  rcases h.2 with hn | ⟨g, cap, cur, rfl, hb1, rest⟩
  · exact .inl hn
  · exact .inr ⟨g, cap, cur, rfl, by omega, rest⟩
set_option maxRecDepth 100000 in
set_option maxHeartbeats 4000000 in
theorem rcuts_ok (le mo bi : Int) (l : List (BitVec 8)) (A : Option Addr) (cap : Nat) (w : World) (hok : okC le mo bi) (hr : RdB w A l) (hl : l.length ≤ cap) (hs : l.length ≤ 1048576) :
    Calls Try.prog 14 #[confV le mo bi, .slice A l.length cap] w fun e w' => ∃ v, e = .returned (.tuple #[v, .int .i64 0]) ∧ w'.ownsRow w.heap.size 3 1 v (cutsL le mo bi l).length (numsV (cutsL le mo bi l)) ∧ Below w.heap.size w w' := by
  obtain ⟨i0, hi, hz0, hz1, hz2⟩ := info_parts info3
  have HC := Lib.hid (show checkC le mo bi = 0 by rw [checkC, if_pos hok])
  have Hok := Lib.hid hok
  obtain ⟨T, hT⟩ : ∃ T, cutsL le mo bi l = T := ⟨_, rfl⟩
  rw [hT]
  have HT := Lib.hid hT
  have HR := Lib.hid hr
  have hm := hr.1
  clear hok hT hr
  go_enter Try.func14, Try.ntmps14
  go_wp2_with (go_at_call 16; refine (rcheck_any le mo bi _).mono ?_; rintro e w' ⟨rfl, rfl⟩; rw [HC.out])
  go_loopw [1, 6] (fun b v wr => ∃ (B : Option Addr) (r : List (BitVec 8)) (c : Nat) (p : List Nat), b = .slice B r.length c ∧ r.length ≤ c ∧ RdB w B r ∧ r.length + p.length ≤ 1048576 ∧ p ++ cutsL le mo bi r = T ∧ wr.ownsRow (w.heap.size + 1) 3 1 v p.length (numsV p) ∧ Below w.heap.size w wr ∧ w.heap.size + 1 ≤ wr.heap.size ∧ wr.cell? ⟨w.heap.size, 0, none⟩ = some (.int .i64 le) ∧ wr.cell? ⟨w.heap.size, 1, none⟩ = some (.int .i64 mo) ∧ wr.cell? ⟨w.heap.size, 2, none⟩ = some (.int .i64 bi)) (fun b _ _ => match b with | .slice _ n _ => n | _ => 0)
  case atStart =>
    have b1 : Below w.heap.size w ((w.alloc (confO le mo bi)).alloc (confO le mo bi)) := ((Below.refl _ _).alloc (Nat.le_refl _) _).alloc (by simp) _
    exact ⟨A, l, cap, [], rfl, hl, HR.out, by simpa using hs, HT.out, World.ownsRow_nil _ _ _ _, b1, by simp, by simp [go_sem], by simp [go_sem], by simp [go_sem]⟩
  case round =>
    obtain ⟨B, r, c, p, rfl, hrc, hrd0, hrp, hp, hown, hbel, hs1, d0, d1, d2⟩ := hrel
    have hsw := hbel.size
    have hrd : RdB wr B r := RdR.below (R' := EqB) hrd0 hbel (fun _ _ h => h)
    by_cases hlt : 0 < r.length
    · have hpos := nextL_pos le mo bi Hok.out r hlt
      have hcons := cutsL_cons le mo bi Hok.out r hlt
      have NX := rnext_any le mo bi r B c wr Hok.out hrd hrc
      obtain ⟨⟨n, ok⟩, hN⟩ : ∃ N, nextL le mo bi r 0 0 = N := ⟨_, rfl⟩
      rw [hN] at NX hpos hcons
      simp only at NX hpos hcons
      have hdrop := hrd0.drop n c hpos.2 hrc
      have hlen : (r.drop n).length = r.length - n := List.length_drop
      rw [hcons] at hp
      have NX := Lib.hid NX
      have Hp := Lib.hid hp
      have Hd := Lib.hid hdrop
      have Hlen := Lib.hid hlen
      obtain ⟨n1, n2⟩ := hpos
      have hrm := hrd.1
      clear hN hcons hdrop hp hlen
      go_wp2_with (first | (go_at_call 31; refine NX.out.mono ?_; rintro e w2 ⟨rfl, b2⟩) | (at_builtin; go_loud (refine wpList_append_own _ rfl (.tmp 24) (.tmp 26) 29 rfl (w.heap.size + 1) 3 i0 (.int .i64 0) 1 8 Try.underlying29 hi hz0 hz1 hz2 rfl (by decide) _ _ _ rfl ((own_below hown b2).alloc _) ⟨w2.heap.size, 0, none⟩ 1 1 [.int .i64 (n : Int)] rfl rfl (cell_one_new _ _ _) (oneI _) (by unfold maxLen; omega) (by omega) (by have := b2.size; simp; omega) ?_; intro v' w3 hown' hgrow _)))
      have b12 := hbel.trans (b2.mono hsw)
      have hb2s := b2.size
      have hrow := own_base' (own_below hown b2)
      have b3 : Below w.heap.size w w3 := (b12.alloc b12.size _).grown hgrow (by have := b12.size; simp; omega) (fun k hk => by have := hrow k hk; omega)
      have cell3 : ∀ j u, wr.cell? ⟨w.heap.size, j, none⟩ = some u → w3.cell? ⟨w.heap.size, j, none⟩ = some u := by
        intro j u h
        have h2 : w2.cell? ⟨w.heap.size, j, none⟩ = some u := (b2.cell (p := ⟨w.heap.size, j, none⟩) (World.block_lt_of_cell? wr _ h)).trans h
        exact hgrow.cell (cell_old _ h2) (fun e => by have := hrow _ e.symm; simp only at this; omega)
      have e3 : p ++ [n] ++ cutsL le mo bi (r.drop n) = T := by rw [List.append_assoc]; exact Hp.out
      rw [numsV_snoc] at hown'
      go_roundw
      case rel =>
        refine ⟨_, r.drop n, c - n, p ++ [n], by rw [Hlen.out], by rw [Hlen.out]; omega, Hd.out, by rw [Hlen.out]; simp; omega, e3, by simpa using hown', b3, by have := b3.size; have := b2.size; have := hgrow.size; simp at this; omega, cell3 _ _ d0, cell3 _ _ d1, cell3 _ _ d2⟩
      case measure => show r.length - n < r.length; omega
    · go_wp2
      go_ret2
      have e0 : r = [] := List.eq_nil_of_length_eq_zero (by omega)
      rw [e0, cutsL_nil, List.append_nil] at hp
      exact ⟨_, rfl, by rw [← hp]; exact own_mono hown (by omega), hbel⟩
end Go.Proofs.Ytpdigpfjmpaooaa
