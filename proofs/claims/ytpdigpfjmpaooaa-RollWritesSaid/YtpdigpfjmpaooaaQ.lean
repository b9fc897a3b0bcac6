import Derived.Test.YtpdigpfjmpaooaaP
import Derived.Test.YtpdigpfjmpaooaaG
import Derived.Deep.Cut
/-! RollAlike. -/
namespace Go.Proofs.Ytpdigpfjmpaooaa
open Go.RowKit
set_option linter.unusedVariables false
set_option linter.unusedSimpArgs false
theorem splitF_len (le mo bi : Int) : ∀ (f : Nat) (l : List (BitVec 8)), (splitF le mo bi f l).2.length ≤ l.length
  | 0, l => Nat.le_refl _
  | f + 1, l => by
    unfold splitF
    split
    · have := splitF_len le mo bi f (l.drop (nextL le mo bi l 0 0).1)
      simp only [List.length_drop] at this ⊢
      omega
    · exact Nat.le_refl _
theorem splitE_len (le mo bi : Int) (l : List (BitVec 8)) : (splitE le mo bi l).2.length ≤ l.length := splitF_len le mo bi _ l
/-- A write, as the walks of the laws take it. -/
theorem write_w (le mo bi : Int) (hok : okC le mo bi) (g : Nat) (L b : List (BitVec 8)) (A : Option Addr) (cap : Nat) (w : World) (hcut : CutAt w g le mo bi L) (hr : RdB w A b) (hnil : A = none → cap = 0) (hc : b.length ≤ cap) (hmax : L.length + b.length ≤ 1048576) :
    Calls Try.prog 24 #[.pointer (some ⟨g, 0, none⟩), .slice A b.length cap] w fun e w' => ∃ v, e = .returned (.tuple #[v, .int .i64 0]) ∧ OwnP w' w.heap.size v (splitE le mo bi (L ++ b)).1 ∧ CutAt w' g le mo bi (splitE le mo bi (L ++ b)).2 ∧ Besides [g] w w' := by
  obtain ⟨c, fz, hk⟩ := hcut.kind
  exact write_yes g le mo bi L b A cap w hok (Array.getElem?_eq_some_iff.1 hk).1 hcut hr hnil hc hmax
theorem CutAt.other {W W' : World} {g g' : Nat} {le mo bi : Int} {L L' : List (BitVec 8)} (h : CutAt W g le mo bi L) (h' : CutAt W g' le mo bi L') (hne : g ≠ g') (hb : Besides [g'] W W') : CutAt W' g le mo bi L :=
  h.besides hb (by simp; exact hne) (fun k hk => by simp at hk; subst hk; exact Or.inr h'.kind)
theorem own_kept {W W' : World} {g : Nat} {le mo bi : Int} {L : List (BitVec 8)} {base size n : Nat} {v : Value} {xs : List Value} (h : W.ownsRow base 5 size v n xs) (h' : CutAt W g le mo bi L) (hb : Besides [g] W W') : W'.ownsRow base 5 size v n xs :=
  own_besides h hb (fun q hq hqs => by
    simp at hqs
    subst hqs
    obtain ⟨c, fz, hc⟩ := h'.kind
    obtain ⟨c2, fz2, hc2⟩ := ownsRow_cells h q hq
    rw [hc2] at hc
    cases hc)
theorem bel_besides {B g : Nat} {w W W' : World} (h : Below B w W) (hb : Besides [g] W W') (hg : B ≤ g) (hB : B ≤ W.heap.size) : Below B w W' := h.trans (hb.to_below (by simp; omega) hB)
set_option maxRecDepth 100000 in
set_option maxHeartbeats 4000000 in
theorem rollAlike_any (le mo bi : Int) (al : List (BitVec 8)) (A : Option Addr) (ca : Nat) (bl : List (BitVec 8)) (B : Option Addr) (cb : Nat) (cl : List (BitVec 8)) (C : Option Addr) (cc : Nat) (w : World) (_h1 : I64 le) (_h2 : I64 mo) (_h3 : I64 bi)
    (hra : RdB w A al) (hla : al.length ≤ ca) (_hsa : al.length * 1 ≤ 140737488351232) (hna : A = none → ca = 0) (hrb : RdB w B bl) (hlb : bl.length ≤ cb) (_hsb : bl.length * 1 ≤ 140737488351232) (hnb : B = none → cb = 0) (hrc : RdB w C cl) (hlc : cl.length ≤ cc) (_hsc : cl.length * 1 ≤ 140737488351232) (hnc : C = none → cc = 0) :
    Calls Try.prog 9 #[confV le mo bi, .slice A al.length ca, .slice B bl.length cb, .slice C cl.length cc] w fun e w' => e = .returned (.bool true) ∧ Below w.heap.size w w' := by
  have b0 : Below w.heap.size w (w.alloc (confO le mo bi)) := (Below.refl _ _).alloc (Nat.le_refl _) _
  by_cases hok : okC le mo bi
  · have HC := Lib.hid (show checkC le mo bi = 0 by rw [checkC, if_pos hok])
    have CUTA := Lib.hid (fun w => cut_any al A ca w hla hra.1)
    have CUTB := Lib.hid (fun w => cut_any bl B cb w hlb hrb.1)
    have CUTC := Lib.hid (fun w => cut_any cl C cc w hlc hrc.1)
    have ra2 := hra.take 8192
    have rb2 := hrb.take 8192
    have rc2 := hrc.take 8192
    have la2 : (al.take 8192).length ≤ 8192 ∧ (al.take 8192).length ≤ ca := by rw [List.length_take]; omega
    have lb2 : (bl.take 8192).length ≤ 8192 ∧ (bl.take 8192).length ≤ cb := by rw [List.length_take]; omega
    have lc2 : (cl.take 8192).length ≤ 8192 ∧ (cl.take 8192).length ≤ cc := by rw [List.length_take]; omega
    generalize al.take 8192 = a at *
    generalize bl.take 8192 = b at *
    generalize cl.take 8192 = c at *
    have RA := Lib.hid (fun (W : World) (h : Below w.heap.size w W) => (RdR.below (R' := EqB) ra2 h (fun _ _ h => h) : RdB W A a))
    have RB := Lib.hid (fun (W : World) (h : Below w.heap.size w W) => (RdR.below (R' := EqB) rb2 h (fun _ _ h => h) : RdB W B b))
    have RC := Lib.hid (fun (W : World) (h : Below w.heap.size w W) => (RdR.below (R' := EqB) rc2 h (fun _ _ h => h) : RdB W C c))
    have NEW := Lib.hid (fun w => new_ok le mo bi w hok)
    have WR := Lib.hid (write_w le mo bi hok)
    have LEFT := Lib.hid (fun g L w => left_yes g le mo bi L w hok)
    have CLOSE := Lib.hid (fun g L w => close_yes g le mo bi L w hok)
    clear hra hrb hrc hla hlb hlc _hsa _hsb _hsc ra2 rb2 rc2 _h1 _h2 _h3 hok
    go_enter Try.func9, Try.ntmps9
    go_upto_region 6 with (first | (go_at_call 15; refine (awake_any _).mono ?_; rintro e w1 ⟨rfl, ba⟩; have b1 := b0.trans (ba.mono b0.size); have d0 := keepB ba (show (w.alloc (confO le mo bi)).cell? ⟨w.heap.size, 0, none⟩ = some (.int .i64 le) by simp [go_sem]); have d1 := keepB ba (show (w.alloc (confO le mo bi)).cell? ⟨w.heap.size, 1, none⟩ = some (.int .i64 mo) by simp [go_sem]); have d2 := keepB ba (show (w.alloc (confO le mo bi)).cell? ⟨w.heap.size, 2, none⟩ = some (.int .i64 bi) by simp [go_sem])) | (go_at_call 16; refine (rcheck_any le mo bi _).mono ?_; rintro e w' ⟨rfl, rfl⟩; rw [HC.out]) | (go_at_call 10; with_reducible refine (CUTA.out _).mono ?_; rintro e w' ⟨rfl, rfl⟩) | (go_at_call 10; with_reducible refine (CUTB.out _).mono ?_; rintro e w' ⟨rfl, rfl⟩) | (go_at_call 10; with_reducible refine (CUTC.out _).mono ?_; rintro e w' ⟨rfl, rfl⟩))
    obtain ⟨W, hW⟩ : ∃ W, w1.alloc (confO le mo bi) = W := ⟨_, rfl⟩
    have b2 : Below w.heap.size w W := hW ▸ b1.alloc b1.size _
    have e0 : W.cell? _ = _ := hW ▸ keepA d0
    have e1 : W.cell? _ = _ := hW ▸ keepA d1
    have e2 : W.cell? _ = _ := hW ▸ keepA d2
    rw [hW]
    clear hW ba b1 d0 d1 d2
    go_upto_region 7 with (go_at_call 22; refine (NEW.out _).mono ?_; rintro e w2 ⟨g1, rfl, cut1, z1, s1, bn1⟩; have f0 := keepB bn1 e0; have f1 := keepB bn1 e1; have f2 := keepB bn1 e2; replace s1 := Lib.hid s1)
    go_upto_region 8 with (go_at_call 22; refine (NEW.out _).mono ?_; rintro e w3 ⟨g2, rfl, cut2, z2, s2, bn2⟩; replace s2 := Lib.hid s2)
    have cutA := cut1.below bn2
    have b3 : Below w.heap.size w w3 := b2.trans ((bn1.mono b2.size).trans (bn2.mono (by have := b2.size; have := bn1.size; omega)))
    have x1 := s1.out
    have x2 := s2.out
    have x0 := b2.size
    have hne : g1 ≠ g2 := by omega
    have hg1 : w.heap.size ≤ g1 := by omega
    have hg2 : w.heap.size ≤ g2 := by omega
    have y1 : g1 < w3.heap.size := by omega
    have y2 : g2 < w3.heap.size := by omega
    clear x0 x1 x2 s1 s2 bn1 bn2 e0 e1 e2 f0 f1 f2 cut1 z1 z2 b2
    go_upto_region 11 with (go_at_call 24; refine (WR.out g1 [] a A ca _ cutA (RA.out _ b3) hna la2.2 (by simp; omega)).mono ?_; rintro e w4 ⟨v1, rfl, o1, cut1, bs1⟩)
    have b4 : Below w.heap.size w w4 := b3.trans (bs1.to_below (by simp; omega) b3.size)
    have cutB := cut2.other cutA (fun e => hne e.symm) bs1
    have l1 := splitE_len le mo bi ([] ++ a)
    generalize (splitE le mo bi ([] ++ a)).2 = L1 at *
    have z4 := bs1.size
    clear o1 bs1 cutA cut2
    go_upto_region 12 with (go_at_call 24; refine (WR.out g2 [] b B cb _ cutB (RB.out _ b4) hnb lb2.2 (by simp; omega)).mono ?_; rintro e w5 ⟨v2, rfl, o2, cut2, bs2⟩)
    have b5 : Below w.heap.size w w5 := b4.trans (bs2.to_below (by simp; omega) b4.size)
    have cutA := cut1.other cutB hne bs2
    have l2 := splitE_len le mo bi ([] ++ b)
    generalize (splitE le mo bi ([] ++ b)).2 = L2 at *
    have z5 := bs2.size
    have LF1 := Lib.hid (LEFT.out g1 L1 w5 cutA)
    have LF2 := Lib.hid (LEFT.out g2 L2 w5 cut2)
    clear o2 bs2 cutB cut1 l1 l2
    by_cases h1 : L1.length = 0
    · by_cases h2 : L2.length = 0
      · obtain rfl := List.eq_nil_of_length_eq_zero h1
        obtain rfl := List.eq_nil_of_length_eq_zero h2
        have cutB := cut2
        clear cut2 h1 h2
        go_upto_region 15 with (first | (go_at_call 27; with_reducible refine LF1.out.mono ?_; rintro e w' ⟨rfl, rfl⟩) | (go_at_call 27; with_reducible refine LF2.out.mono ?_; rintro e w' ⟨rfl, rfl⟩))
        clear LF1 LF2
        obtain ⟨T, hT⟩ : ∃ T, splitE le mo bi ([] ++ c) = T := ⟨_, rfl⟩
        have Z5 := Lib.hid (show w.heap.size ≤ w5.heap.size by have := b5.size; omega)
        go_upto_region 16 with (go_at_call 24; refine (WR.out g1 [] c C cc _ cutA (RC.out _ b5) hnc lc2.2 (by simp; omega)).mono ?_; rintro e w6 ⟨v1, rfl, o1, cut1, bs1⟩)
        have b6 : Below w.heap.size w w6 := b5.trans (bs1.to_below (by simp; omega) Z5.out)
        have cut2 := cutB.other cutA (fun e => hne e.symm) bs1
        have z6 := bs1.size
        clear cutA cutB bs1
        rw [hT] at o1 cut1
        go_upto_region 17 with (go_at_call 24; refine (WR.out g2 [] c C cc _ cut2 (RC.out _ b6) hnc lc2.2 (by simp; omega)).mono ?_; rintro e w7 ⟨v2, rfl, o2, cutB, bs2⟩)
        rw [hT] at o2 cutB
        have b7 : Below w.heap.size w w7 := b6.trans (bs2.to_below (by simp; omega) b6.size)
        have cutA := cut1.other cut2 hne bs2
        have o1 := o1.besides bs2 (by simp; omega)
        have z7 := bs2.size
        clear cut1 cut2 bs2 hT
        go_upto_region 18 with (go_at_call 25; refine (CLOSE.out g1 T.2 _ cutA).mono ?_; rintro e w8 ⟨u1, rfl, q1, cut1, bs3⟩)
        have b8 : Below w.heap.size w w8 := b7.trans (bs3.to_below (by simp; omega) b7.size)
        have cut2 := cutB.other cutA (fun e => hne e.symm) bs3
        have o1 := o1.besides bs3 (by simp; omega)
        have o2 := o2.besides bs3 (by simp; omega)
        have z8 := bs3.size
        clear cutA cutB bs3
        go_upto_region 19 with (go_at_call 25; refine (CLOSE.out g2 T.2 _ cut2).mono ?_; rintro e w9 ⟨u2, rfl, q2, cutB, bs4⟩)
        have b9 : Below w.heap.size w w9 := b8.trans (bs4.to_below (by simp; omega) b8.size)
        have o1 := o1.besides bs4 (by simp; omega)
        have o2 := o2.besides bs4 (by simp; omega)
        have q1 := own_kept q1 cut2 bs4
        clear cut1 cut2 cutB bs4
        obtain ⟨A1, c1, hv1, r1, _, p1⟩ := o1.read
        obtain ⟨A2, c2, hv2, r2, _, p2⟩ := o2.read
        obtain ⟨B1, d1, hu1, t1, rd1, _⟩ := own_bytes q1
        obtain ⟨B2, d2, hu2, t2, rd2, _⟩ := own_bytes q2
        subst hv1 hv2 hu1 hu2
        have SAME := Lib.hid (same_yes T.1 A1 A2 c1 c2 w9 p1 p2 r1 r2)
        have CV1 := Lib.hid (fun W (h : Below w9.heap.size w9 W) => conv_rd (RdR.below (R' := EqB) rd1 h (fun _ _ h => h) : RdB W B1 T.2) T.2.length d1 rfl)
        have CV2 := Lib.hid (fun W (h : Below w9.heap.size w9 W) => conv_rd (RdR.below (R' := EqB) rd2 h (fun _ _ h => h) : RdB W B2 T.2) T.2.length d2 rfl)
        generalize T.2.length = n at *
        generalize strV T.2 = Y at *
        generalize T.1.length = m at *
        clear o1 o2 q1 q2 p1 p2 rd1 rd2
        go_wp2_with (go_at_call 26; refine SAME.out.mono ?_; rintro e w10 ⟨rfl, b10⟩; have k1 := CV1.out w10 b10; have k2 := CV2.out w10 b10)
        go_ret
        exact ⟨by simp, b9.trans (b10.mono b9.size)⟩
      · skip
        have CL1 := Lib.hid (CLOSE.out g1 L1 w5 cutA)
        have hl1 : (L1.length : Int) = 0 := by omega
        have hl2 : ¬ ((L2.length : Int) = 0) := by omega
        go_upto_region 14 with (first | (go_at_call 27; with_reducible refine LF1.out.mono ?_; rintro e w' ⟨rfl, rfl⟩) | (go_at_call 27; with_reducible refine LF2.out.mono ?_; rintro e w' ⟨rfl, rfl⟩) | (go_at_call 25; refine CL1.out.mono ?_; rintro e wx ⟨u1, rfl, _, cut1, bs1⟩))
        have b5x : Below w.heap.size w wx := b5.trans (bs1.to_below (by simp; omega) b5.size)
        have cutB := cut2.other cutA (fun e => hne e.symm) bs1
        have z5x := bs1.size
        clear LF1 LF2 bs1 cutA cut2 CL1
        go_upto_region 15 with (go_at_call 25; refine (CLOSE.out g2 L2 wx cutB).mono ?_; rintro e wy ⟨u2, rfl, _, cut2, bs2⟩)
        have b5y : Below w.heap.size w wy := b5x.trans (bs2.to_below (by simp; omega) b5x.size)
        have cutA := cut1.other cutB hne bs2
        have z5y := bs2.size
        have zz : w3.heap.size ≤ wy.heap.size := by omega
        clear bs2 cut1 cutB h1 h2 hl1 hl2 b5x b5 z5x z5y z5 z4
        have cutB := cut2
        clear cut2
        have b5 := b5y
        clear b5y
        obtain ⟨T, hT⟩ : ∃ T, splitE le mo bi ([] ++ c) = T := ⟨_, rfl⟩
        have Z5 := Lib.hid (show w.heap.size ≤ wy.heap.size by have := b5.size; omega)
        go_upto_region 16 with (go_at_call 24; refine (WR.out g1 [] c C cc _ cutA (RC.out _ b5) hnc lc2.2 (by simp; omega)).mono ?_; rintro e w6 ⟨v1, rfl, o1, cut1, bs1⟩)
        have b6 : Below w.heap.size w w6 := b5.trans (bs1.to_below (by simp; omega) Z5.out)
        have cut2 := cutB.other cutA (fun e => hne e.symm) bs1
        have z6 := bs1.size
        clear cutA cutB bs1
        rw [hT] at o1 cut1
        go_upto_region 17 with (go_at_call 24; refine (WR.out g2 [] c C cc _ cut2 (RC.out _ b6) hnc lc2.2 (by simp; omega)).mono ?_; rintro e w7 ⟨v2, rfl, o2, cutB, bs2⟩)
        rw [hT] at o2 cutB
        have b7 : Below w.heap.size w w7 := b6.trans (bs2.to_below (by simp; omega) b6.size)
        have cutA := cut1.other cut2 hne bs2
        have o1 := o1.besides bs2 (by simp; omega)
        have z7 := bs2.size
        clear cut1 cut2 bs2 hT
        go_upto_region 18 with (go_at_call 25; refine (CLOSE.out g1 T.2 _ cutA).mono ?_; rintro e w8 ⟨u1, rfl, q1, cut1, bs3⟩)
        have b8 : Below w.heap.size w w8 := b7.trans (bs3.to_below (by simp; omega) b7.size)
        have cut2 := cutB.other cutA (fun e => hne e.symm) bs3
        have o1 := o1.besides bs3 (by simp; omega)
        have o2 := o2.besides bs3 (by simp; omega)
        have z8 := bs3.size
        clear cutA cutB bs3
        go_upto_region 19 with (go_at_call 25; refine (CLOSE.out g2 T.2 _ cut2).mono ?_; rintro e w9 ⟨u2, rfl, q2, cutB, bs4⟩)
        have b9 : Below w.heap.size w w9 := b8.trans (bs4.to_below (by simp; omega) b8.size)
        have o1 := o1.besides bs4 (by simp; omega)
        have o2 := o2.besides bs4 (by simp; omega)
        have q1 := own_kept q1 cut2 bs4
        clear cut1 cut2 cutB bs4
        obtain ⟨A1, c1, hv1, r1, _, p1⟩ := o1.read
        obtain ⟨A2, c2, hv2, r2, _, p2⟩ := o2.read
        obtain ⟨B1, d1, hu1, t1, rd1, _⟩ := own_bytes q1
        obtain ⟨B2, d2, hu2, t2, rd2, _⟩ := own_bytes q2
        subst hv1 hv2 hu1 hu2
        have SAME := Lib.hid (same_yes T.1 A1 A2 c1 c2 w9 p1 p2 r1 r2)
        have CV1 := Lib.hid (fun W (h : Below w9.heap.size w9 W) => conv_rd (RdR.below (R' := EqB) rd1 h (fun _ _ h => h) : RdB W B1 T.2) T.2.length d1 rfl)
        have CV2 := Lib.hid (fun W (h : Below w9.heap.size w9 W) => conv_rd (RdR.below (R' := EqB) rd2 h (fun _ _ h => h) : RdB W B2 T.2) T.2.length d2 rfl)
        generalize T.2.length = n at *
        generalize strV T.2 = Y at *
        generalize T.1.length = m at *
        clear o1 o2 q1 q2 p1 p2 rd1 rd2
        go_wp2_with (go_at_call 26; refine SAME.out.mono ?_; rintro e w10 ⟨rfl, b10⟩; have k1 := CV1.out w10 b10; have k2 := CV2.out w10 b10)
        go_ret
        exact ⟨by simp, b9.trans (b10.mono b9.size)⟩
    · skip
      have CL1 := Lib.hid (CLOSE.out g1 L1 w5 cutA)
      have hl1 : ¬ ((L1.length : Int) = 0) := by omega
      go_upto_region 14 with (first | (go_at_call 27; with_reducible refine LF1.out.mono ?_; rintro e w' ⟨rfl, rfl⟩) | (go_at_call 27; with_reducible refine LF2.out.mono ?_; rintro e w' ⟨rfl, rfl⟩) | (go_at_call 25; refine CL1.out.mono ?_; rintro e wx ⟨u1, rfl, _, cut1, bs1⟩))
      have b5x : Below w.heap.size w wx := b5.trans (bs1.to_below (by simp; omega) b5.size)
      have cutB := cut2.other cutA (fun e => hne e.symm) bs1
      have z5x := bs1.size
      clear LF1 LF2 bs1 cutA cut2 CL1
      go_upto_region 15 with (go_at_call 25; refine (CLOSE.out g2 L2 wx cutB).mono ?_; rintro e wy ⟨u2, rfl, _, cut2, bs2⟩)
      have b5y : Below w.heap.size w wy := b5x.trans (bs2.to_below (by simp; omega) b5x.size)
      have cutA := cut1.other cutB hne bs2
      have z5y := bs2.size
      have zz : w3.heap.size ≤ wy.heap.size := by omega
      clear bs2 cut1 cutB h1 hl1 b5x b5 z5x z5y z5 z4
      have cutB := cut2
      clear cut2
      have b5 := b5y
      clear b5y
      obtain ⟨T, hT⟩ : ∃ T, splitE le mo bi ([] ++ c) = T := ⟨_, rfl⟩
      have Z5 := Lib.hid (show w.heap.size ≤ wy.heap.size by have := b5.size; omega)
      go_upto_region 16 with (go_at_call 24; refine (WR.out g1 [] c C cc _ cutA (RC.out _ b5) hnc lc2.2 (by simp; omega)).mono ?_; rintro e w6 ⟨v1, rfl, o1, cut1, bs1⟩)
      have b6 : Below w.heap.size w w6 := b5.trans (bs1.to_below (by simp; omega) Z5.out)
      have cut2 := cutB.other cutA (fun e => hne e.symm) bs1
      have z6 := bs1.size
      clear cutA cutB bs1
      rw [hT] at o1 cut1
      go_upto_region 17 with (go_at_call 24; refine (WR.out g2 [] c C cc _ cut2 (RC.out _ b6) hnc lc2.2 (by simp; omega)).mono ?_; rintro e w7 ⟨v2, rfl, o2, cutB, bs2⟩)
      rw [hT] at o2 cutB
      have b7 : Below w.heap.size w w7 := b6.trans (bs2.to_below (by simp; omega) b6.size)
      have cutA := cut1.other cut2 hne bs2
      have o1 := o1.besides bs2 (by simp; omega)
      have z7 := bs2.size
      clear cut1 cut2 bs2 hT
      go_upto_region 18 with (go_at_call 25; refine (CLOSE.out g1 T.2 _ cutA).mono ?_; rintro e w8 ⟨u1, rfl, q1, cut1, bs3⟩)
      have b8 : Below w.heap.size w w8 := b7.trans (bs3.to_below (by simp; omega) b7.size)
      have cut2 := cutB.other cutA (fun e => hne e.symm) bs3
      have o1 := o1.besides bs3 (by simp; omega)
      have o2 := o2.besides bs3 (by simp; omega)
      have z8 := bs3.size
      clear cutA cutB bs3
      go_upto_region 19 with (go_at_call 25; refine (CLOSE.out g2 T.2 _ cut2).mono ?_; rintro e w9 ⟨u2, rfl, q2, cutB, bs4⟩)
      have b9 : Below w.heap.size w w9 := b8.trans (bs4.to_below (by simp; omega) b8.size)
      have o1 := o1.besides bs4 (by simp; omega)
      have o2 := o2.besides bs4 (by simp; omega)
      have q1 := own_kept q1 cut2 bs4
      clear cut1 cut2 cutB bs4
      obtain ⟨A1, c1, hv1, r1, _, p1⟩ := o1.read
      obtain ⟨A2, c2, hv2, r2, _, p2⟩ := o2.read
      obtain ⟨B1, d1, hu1, t1, rd1, _⟩ := own_bytes q1
      obtain ⟨B2, d2, hu2, t2, rd2, _⟩ := own_bytes q2
      subst hv1 hv2 hu1 hu2
      have SAME := Lib.hid (same_yes T.1 A1 A2 c1 c2 w9 p1 p2 r1 r2)
      have CV1 := Lib.hid (fun W (h : Below w9.heap.size w9 W) => conv_rd (RdR.below (R' := EqB) rd1 h (fun _ _ h => h) : RdB W B1 T.2) T.2.length d1 rfl)
      have CV2 := Lib.hid (fun W (h : Below w9.heap.size w9 W) => conv_rd (RdR.below (R' := EqB) rd2 h (fun _ _ h => h) : RdB W B2 T.2) T.2.length d2 rfl)
      generalize T.2.length = n at *
      generalize strV T.2 = Y at *
      generalize T.1.length = m at *
      clear o1 o2 q1 q2 p1 p2 rd1 rd2
      go_wp2_with (go_at_call 26; refine SAME.out.mono ?_; rintro e w10 ⟨rfl, b10⟩; have k1 := CV1.out w10 b10; have k2 := CV2.out w10 b10)
      go_ret
      exact ⟨by simp, b9.trans (b10.mono b9.size)⟩
  · have HC := Lib.hid (show checkC le mo bi = 80 by rw [checkC, if_neg hok])
    clear hra hrb hrc hok
    go_enter Try.func9, Try.ntmps9
    go_wp2_with (first | (go_at_call 15; refine (awake_any _).mono ?_; rintro e w0 ⟨rfl, ba⟩; have bba := b0.trans (ba.mono b0.size); have d0 := keepB ba (show (w.alloc (confO le mo bi)).cell? ⟨w.heap.size, 0, none⟩ = some (.int .i64 le) by simp [go_sem]); have d1 := keepB ba (show (w.alloc (confO le mo bi)).cell? ⟨w.heap.size, 1, none⟩ = some (.int .i64 mo) by simp [go_sem]); have d2 := keepB ba (show (w.alloc (confO le mo bi)).cell? ⟨w.heap.size, 2, none⟩ = some (.int .i64 bi) by simp [go_sem])) | (go_at_call 16; refine (rcheck_any le mo bi _).mono ?_; rintro e w' ⟨rfl, rfl⟩; rw [HC.out]))
    go_ret
    exact ⟨rfl, bba.alloc bba.size _⟩
end Go.Proofs.Ytpdigpfjmpaooaa
