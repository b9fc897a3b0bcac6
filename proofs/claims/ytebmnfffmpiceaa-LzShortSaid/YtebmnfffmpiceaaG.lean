import Derived.Test.YtebmnfffmpiceaaF
/-! The token at a place. -/
namespace Go.Proofs.Ytebmnfffmpiceaa
open Go.RowKit
set_option linter.unusedVariables false
set_option linter.unusedSimpArgs false
theorem Mv.setNew {B g m : Nat} {a w : World} (h : Mv B g m a w) {k : Nat} (hk : a.heap.size ≤ k) (i : Nat) (u : Value) : Mv B g m a (w.setCell ⟨k, i, none⟩ u) :=
  ⟨h.1, by have := h.2.1; simp [World.setCell]; exact this, fun k' hk' hc => (Below.heap_setCell _ _ _ _ (by simp only; omega)).trans (h.2.2 k' hk' hc)⟩
theorem Mv.keeps {B g m : Nat} {a w : World} (h : Mv B g m a w) {k : Nat} {cs : Array Value} {t : TypeId} {fr : Nat × Nat} (hk : a.heap[k]? = some (.cells cs t fr)) (ht : t ≠ 3) (hg : k ≠ g) (hm : k ≠ m) : w.heap[k]? = some (.cells cs t fr) :=
  (h.2.2 k (Array.getElem?_eq_some_iff.1 hk).1 (Or.inr ⟨hg, hm, fun cur fz e => by rw [hk] at e; simp only [Option.some.injEq, Obj.cells.injEq] at e; exact ht e.2.1⟩)).trans hk
theorem Fd.alloc {w : World} {g m B : Nat} {b : By} {A : Option Addr} {cap n : Nat} {v : Value} {D : Dm} (h : Fd w g m B b A cap n v D) (o : Obj) : Fd (w.alloc o) g m B b A cap n v D :=
  ⟨heap_old o trivial h.1, h.2.1.alloc o, h.2.2.1.alloc o, h.2.2.2⟩
theorem Fd.drewN {w : World} {g m B : Nat} {b : By} {A : Option Addr} {cap n : Nat} {v : Value} {D : Dm} (h : Fd w g m B b A cap n v D) (q : Nat) : Fd (w.drewN q) g m B b A cap n v D := h
theorem Fd.other {w : World} {g m B : Nat} {b : By} {A : Option Addr} {cap n : Nat} {v : Value} {D : Dm} (h : Fd w g m B b A cap n v D) {k : Nat} {cs : Array Value} {t : TypeId} {fr : Nat × Nat} (hk : w.heap[k]? = some (.cells cs t fr)) (ht : t ≠ 3) (hg : k ≠ g) (i : Nat) (u : Value) : Fd (w.setCell ⟨k, i, none⟩ u) g m B b A cap n v D := by
  obtain ⟨h1, h2, h3, h4, h5⟩ := h
  exact ⟨(Below.heap_setCell _ _ _ _ (by simp only; omega)).trans h1, ownsRow_setCell_other h2 (own_not h2 hk ht) _, h3.setCell (Ne.symm (map_ne hk h3)) _, h4, h5⟩
theorem set3 {w : World} {k : Nat} {t : TypeId} {fr : Nat × Nat} {a0 a1 a2 : Value} (h : w.heap[k]? = some (.cells #[a0, a1, a2] t fr)) (b0 b1 b2 : Value) :
    (((w.setCell ⟨k, 0, none⟩ b0).setCell ⟨k, 1, none⟩ b1).setCell ⟨k, 2, none⟩ b2).heap[k]? = some (.cells #[b0, b1, b2] t fr) := by
  have h1 := heap_setCell h 0 b0
  have h2 := heap_setCell h1 1 b1
  have h3 := heap_setCell h2 2 b2
  rw [h3]; rfl
theorem Fd.set3 {w : World} {g m B : Nat} {b : By} {A : Option Addr} {cap n : Nat} {v : Value} {D : Dm} (h : Fd w g m B b A cap n v D) {k : Nat} {cs : Array Value} {t : TypeId} {fr : Nat × Nat} (hk : w.heap[k]? = some (.cells cs t fr)) (ht : t ≠ 3) (hg : k ≠ g) (b0 b1 b2 : Value) :
    Fd (((w.setCell ⟨k, 0, none⟩ b0).setCell ⟨k, 1, none⟩ b1).setCell ⟨k, 2, none⟩ b2) g m B b A cap n v D :=
  ((h.other hk ht hg 0 b0).other (heap_setCell hk 0 b0) ht hg 1 b1).other (heap_setCell (heap_setCell hk 0 b0) 1 b1) ht hg 2 b2
theorem Mv.set3 {B g m : Nat} {a w : World} (h : Mv B g m a w) {k : Nat} (hk : a.heap.size ≤ k) (b0 b1 b2 : Value) : Mv B g m a (((w.setCell ⟨k, 0, none⟩ b0).setCell ⟨k, 1, none⟩ b1).setCell ⟨k, 2, none⟩ b2) := ((h.setNew hk 0 b0).setNew hk 1 b1).setNew hk 2 b2
abbrev tokV (t : Tok) : Value := tV t.1 t.2.1 t.2.2
abbrev tokO (t : Tok) : Obj := tO t.1 t.2.1 t.2.2

set_option maxRecDepth 100000 in
set_option maxHeartbeats 4000000 in
theorem token_any (b : By) (ad : Addr) (cap g m B n at' : Nat) (v : Value) (D : Dm) (w : World) (hr : RdB w (some ad) b) (hl : b.length ≤ cap) (hs : b.length ≤ 65536) (hB : B ≤ w.heap.size) (hA : ad.block < B) (hfd : Fd w g m B b (some ad) cap n v D) (hat : at' < b.length) (hn : n ≤ at') :
    Calls Try.prog 25 #[.pointer (some ⟨g, 0, none⟩), .int .i64 at'] w fun e w' => e = .returned (tokV (tokOf b at' (longT b at'))) ∧ (∃ v' D', Fd w' g m B b (some ad) cap at' v' D') ∧ Mv B g m w w' := by
  have hBg := hfd.2.2.2.2.1
  have hBm := hfd.2.2.2.2.2
  have g0 : w.cell? ⟨g, 0, none⟩ = some (.slice (some ad) b.length cap) := by rw [Joins.cell_of_block hfd.1]; rfl
  have hlt := World.block_lt_of_cell? w _ g0
  obtain ⟨ad', e, cx⟩ := RdB.at' hr at' hat
  cases e
  obtain ⟨x, hx⟩ : ∃ x, b[at'] = x := ⟨_, rfl⟩
  rw [hx] at cx
  have HX := Lib.hid hx
  have Hr := Lib.hid hr
  have HF := Lib.hid hfd
  have cx1 := cell_old (.cells #[.int .i64 0, .int .i64 0, .int .u8 0] 38) cx
  have UP := Lib.hid (fun w1 (h : Mv B g m w w1) hf => up_any b (some ad) cap g m B n at' v D w1 (RdB_under hr (h.below hB) hA) hl hs (Nat.le_trans hB h.2.1) (fun a e => by cases e; exact hA) hf (Nat.le_of_lt hat) hn)
  obtain ⟨T, hT⟩ : ∃ T, tokOf b at' (longT b at') = T := ⟨_, rfl⟩
  rw [hT]
  have HT := Lib.hid hT
  clear hfd hr hx cx hT
  go_enter Try.func25, Try.ntmps25
  go_wp2_with (first | (go_at_call 27; refine (UP.out _ (((Mv.refl _ _ _ _).alloc _).alloc _) ((HF.out.alloc _).alloc _)).mono ?_; rintro e w1 ⟨rfl, ⟨v1, D1, hf1⟩, mv1⟩; have HF1 := Lib.hid hf1; clear hf1) | fail)
  have hmlt : m < w.heap.size := by obtain ⟨es, clock, hh, _⟩ := HF.out.2.2.1; exact (Array.getElem?_eq_some_iff.1 hh).1
  have hsz : w.heap.size + 2 ≤ w1.heap.size := by have := mv1.2.1; simp at this; omega
  have hX0 : w1.heap[w.heap.size]? = some (.cells #[.int .i64 0, .int .i64 0, .int .u8 0] 38) := mv1.keeps (heap_old _ trivial (heap_new _ _ _ rfl)) (by decide) (by omega) (by omega)
  have hX1 : w1.heap[w.heap.size + 1]? = some (.cells #[.int .i64 0, .int .i64 1, .int .u8 x.toNat] 38) := mv1.keeps (heap_new _ _ _ (by simp)) (by decide) (by omega) (by omega)
  have mvw1 : Mv B g m w w1 := (((Mv.refl _ _ _ _).alloc _).alloc _).trans mv1
  have h0 : w1.cell? ⟨g, 0, none⟩ = some (.slice (some ad) b.length cap) := by rw [Joins.cell_of_block HF1.out.1]; rfl
  have HX0 := Lib.hid hX0
  have HX1 := Lib.hid hX1
  have hrd := RdB_under Hr.out (mvw1.below hB) hA
  have hg1 : g < w1.heap.size := by omega
  clear hX0 hX1 mv1 g0 cx1
  by_cases h4 : at' + 4 ≤ b.length
  · obtain ⟨x0, x1, x2, x3, hkey, q0, q1, q2, q3⟩ := four_cells hrd at' h4
    have HK := Lib.hid hkey
    clear hkey
    refine (at_yes b ad cap g at' w1 h0 hs hl h4 x0 x1 x2 x3 q0 q1 q2 q3).mono ?_
    rintro e w' ⟨rfl, rfl⟩
    have KF : Fd ((w1.alloc (fourO x0 x1 x2 x3)).alloc (fourO x0 x1 x2 x3)) g m B b (some ad) cap at' v1 D1 := (HF1.out.alloc _).alloc _
    have c0 : w1.cell? ⟨w.heap.size + 1, 0, none⟩ = some (.int .i64 0) := by rw [Joins.cell_of_block HX1.out]; rfl
    have g1 : w1.cell? ⟨g, 1, none⟩ = some (.map (some m)) := by rw [Joins.cell_of_block HF1.out.1]; rfl
    obtain ⟨P, hP⟩ : ∃ P, lastOcc b [x0, x1, x2, x3] at' = P := ⟨_, rfl⟩
    have Y := fun (w : World) (h : w.ownsMap Try.prog 58 (plainElem Try.prog 3) m at' D1) hp => look_yes h HF1.out.2.2.2.1 (x0 := x0) (x1 := x1) (x2 := x2) (x3 := x3) hp
    have N := fun (w : World) (h : w.ownsMap Try.prog 58 (plainElem Try.prog 3) m at' D1) hp => look_no h HF1.out.2.2.2.1 (x0 := x0) (x1 := x1) (x2 := x2) (x3 := x3) hp
    rw [hP] at Y N
    have HP := Lib.hid hP
    clear hP
    by_cases hp : 0 ≤ P
    · have hlk := fun nq => Y ((((w1.alloc (fourO x0 x1 x2 x3)).alloc (fourO x0 x1 x2 x3))).drewN nq) (drewN_map KF.2.2.1 nq) hp
      have HKF := Lib.hid KF
      clear Y N KF
      go_wp2_with fail
      go_quiet (fail)
      clear hlk
      obtain ⟨W2, hW2⟩ : ∃ W, ((w1.alloc (fourO x0 x1 x2 x3)).alloc (fourO x0 x1 x2 x3)).drewN nq = W := ⟨_, rfl⟩
      have KF : Fd W2 g m B b (some ad) cap at' v1 D1 := by subst hW2; exact HKF.out.drewN nq
      have K0 : W2.heap[w.heap.size]? = some (.cells #[.int .i64 0, .int .i64 0, .int .u8 0] 38) := by subst hW2; exact heap_old _ trivial (heap_old _ trivial HX0.out)
      have K1 : W2.heap[w.heap.size + 1]? = some (.cells #[.int .i64 0, .int .i64 1, .int .u8 x.toNat] 38) := by subst hW2; exact heap_old _ trivial (heap_old _ trivial HX1.out)
      have mvW : Mv B g m w W2 := by subst hW2; exact ((mvw1.alloc _).alloc _).drewN _
      rw [show (((w1.alloc (fourO x0 x1 x2 x3)).alloc (Obj.cells #[Value.int IntKind.u8 x0.toNat, Value.int IntKind.u8 x1.toNat, Value.int IntKind.u8 x2.toNat, Value.int IntKind.u8 x3.toNat] 58)).drewN nq) = W2 from hW2]
      have HKF2 := Lib.hid KF
      have HK0 := Lib.hid K0
      have HK1 := Lib.hid K1
      clear hW2 KF K0 K1 HKF q0 q1 q2 q3 c0 g1 h0 hrd hg1
      go_wp2_with fail
      go_loopg [8] at' (fun k p wr => ∃ nn : Nat, nn = k ∧ nn ≤ at' ∧ p = .int .i64 (lastOcc b [x0, x1, x2, x3] nn) ∧ Fd wr g m B b (some ad) cap at' v1 D1 ∧ wr.heap[w.heap.size + 1]? = some (tokO (tokOf b at' (foldT b at' (at' - nn)))) ∧ wr.heap[w.heap.size]? = some (.cells #[.int .i64 0, .int .i64 0, .int .u8 0] 38) ∧ Mv B g m w wr)
      case atStart =>
        refine ⟨at', rfl, Nat.le_refl _, by rw [HP.out], HKF2.out, ?_, HK0.out, mvW⟩
        rw [Nat.sub_self]
        have e : tokOf b at' (foldT b at' 0) = (0, 1, x) := by
          unfold tokOf foldT
          simp [List.getD_eq_getElem?_getD, List.getElem?_eq_getElem hat, HX.out]
        rw [e]; exact HK1.out
      case round =>
        obtain ⟨nn, rfl, hnn, rfl, hfr, hs1, hs0, hmv⟩ := hrel
        have hk := HK.out
        have hsr := hmv.2.1
        have ch1 := chain_none b at' nn h4 hnn
        have ch2 := chain_far b at' nn h4 hnn
        have ch3 := fun q => chain_some b at' nn q h4 hnn
        have hlast := (lastOcc_lt b [x0, x1, x2, x3] nn)
        rw [hk] at ch1 ch2 ch3
        obtain ⟨p, hpp⟩ : ∃ p, lastOcc b [x0, x1, x2, x3] nn = p := ⟨_, rfl⟩
        rw [hpp] at ch1 ch2 ch3 hlast
        have Ch1 := Lib.hid ch1
        have Ch2 := Lib.hid ch2
        have Ch3 := Lib.hid ch3
        have Hp := Lib.hid hpp
        have HFr := Lib.hid hfr
        rw [hpp]
        obtain ⟨hl1, hl2⟩ := hlast
        have htl := tokOf_len b at' (foldT b at' (at' - nn))
        obtain ⟨⟨d, l, y⟩, htk⟩ : ∃ t, tokOf b at' (foldT b at' (at' - nn)) = t := ⟨_, rfl⟩
        rw [htk] at hs1 htl
        simp only at htl
        have Hs1 : Hid (wr.heap[w.heap.size + 1]? = some (.cells #[.int .i64 d, .int .i64 l, .int .u8 y.toNat] 38)) := hs1
        have Hs0 := Lib.hid hs0
        have Htl := Lib.hid htl
        have Htk := Lib.hid htk
        clear hk ch1 ch2 ch3 hpp hfr hs1 hs0 htl htk
        by_cases h0p : 0 ≤ p
        · by_cases hfar : 4096 < (at' : Int) - p
          · have ET := Lib.hid (show T = (d, l, y) by rw [← HT.out, Ch2.out h0p hfar, Htk.out])
            have b1 : decide (0 ≤ p) = true := by simp; omega
            have b2 : decide ((at' : Int) - p ≤ 4096) = false := by simp; omega
            have cc0 : wr.cell? ⟨w.heap.size + 1, 0, none⟩ = some (.int .i64 d) := by rw [Joins.cell_of_block Hs1.out]; rfl
            have cc1 : wr.cell? ⟨w.heap.size + 1, 1, none⟩ = some (.int .i64 l) := by rw [Joins.cell_of_block Hs1.out]; rfl
            have cc2 : wr.cell? ⟨w.heap.size + 1, 2, none⟩ = some (.int .u8 y.toNat) := by rw [Joins.cell_of_block Hs1.out]; rfl
            have d0 : wr.cell? ⟨w.heap.size, 0, none⟩ = some (.int .i64 0) := by rw [Joins.cell_of_block Hs0.out]; rfl
            have d1 : wr.cell? ⟨w.heap.size, 1, none⟩ = some (.int .i64 0) := by rw [Joins.cell_of_block Hs0.out]; rfl
            have d2 : wr.cell? ⟨w.heap.size, 2, none⟩ = some (.int .u8 0) := by rw [Joins.cell_of_block Hs0.out]; rfl
            have f0 := fr_of Hs0.out 0
            have f1 := fr_of Hs0.out 1
            have f2 := fr_of Hs0.out 2
            go_wp2_with fail
            exact bodyPost_ret (v := tokV T) (by rw [ET.out]; simp [results, Try.results25, go_sem, d0, d1, d2]) rfl ⟨rfl, ⟨_, _, HFr.out.set3 Hs0.out (by decide) (by omega) _ _ _⟩, hmv.set3 (Nat.le_refl _) _ _ _⟩
          · obtain ⟨q, rfl⟩ := Int.eq_ofNat_of_zero_le h0p
            obtain ⟨h1, h2, h3, h5, h6, h7⟩ := Ch3.out q rfl (by omega)
            have hrd := RdB_under Hr.out (hmv.below hB) hA
            have a0 : wr.cell? ⟨g, 0, none⟩ = some (.slice (some ad) b.length cap) := by rw [Joins.cell_of_block HFr.out.1]; rfl
            have RC := Lib.hid (reach_any b (some ad) cap q at' wr hrd hl hs g a0 h2 hat)
            obtain ⟨gv, cv, hv⟩ := Joins.ownsRow_form HFr.out.2.1 (by omega)
            have a2 : wr.cell? ⟨g, 2, none⟩ = some (.slice (some ⟨gv, 0, none⟩) at' cv) := by rw [Joins.cell_of_block HFr.out.1, ← hv]; rfl
            have hown := HFr.out.2.1
            rw [hv] at hown
            have ca : wr.cell? ((⟨gv, 0, none⟩ : Addr).add q) = some (.int .i64 (aheadI b q)) := hown.cells (g := gv) rfl q _ (by simp [intsV, aheadL, h2])
            rw [h6] at ca
            rw [add_zero_off] at ca
            have cc1 : wr.cell? ⟨w.heap.size + 1, 1, none⟩ = some (.int .i64 l) := by rw [Joins.cell_of_block Hs1.out]; rfl
            have cc0 : wr.cell? ⟨w.heap.size + 1, 0, none⟩ = some (.int .i64 d) := by rw [Joins.cell_of_block Hs1.out]; rfl
            have cc2 : wr.cell? ⟨w.heap.size + 1, 2, none⟩ = some (.int .u8 y.toNat) := by rw [Joins.cell_of_block Hs1.out]; rfl
            have f0 := fr_of Hs1.out 0
            have f1 := fr_of Hs1.out 1
            have f2 := fr_of Hs1.out 2
            have b1 : decide (0 ≤ (q : Int)) = true := by simp
            have b2 : decide ((at' : Int) - q ≤ 4096) = true := by simp; omega
            have w1' : IntKind.i64.wrap ((at' : Int) - q) = (at' : Int) - q := wrap_in _ (by omega)
            have hRle := reachN_le b q at'
            have hgv : gv ≠ w.heap.size + 1 := fun e => own_not hown Hs1.out (by decide) (by rw [← e]; rfl)
            have Htl := Htl.out
            obtain ⟨R, hR⟩ : ∃ R, reachN b q at' = R := ⟨_, rfl⟩
            rw [hR] at h5 h7 RC hRle
            have HR := Lib.hid hR
            obtain ⟨l0, hl0⟩ : ∃ l0, (foldT b at' (at' - nn)).2 = l0 := ⟨_, rfl⟩
            rw [hl0] at h7 Htl
            subst Htl
            have HV := Lib.hid hv
            have H7 := Lib.hid h7
            obtain ⟨p2, hp2⟩ : ∃ p2, lastOcc b [x0, x1, x2, x3] q = p2 := ⟨_, rfl⟩
            rw [hp2] at ca
            have HP2 := Lib.hid hp2
            have HO := Lib.hid hown
            have hl0' : l0 ≤ 258 := by rw [← hl0]; exact (foldT_len b at' _).2.1
            clear hR hl0 hv h7 h6 hp2 hown hrd
            by_cases hgt : l0 < R
            · have b3 : decide ((l0 : Int) < (R : Int)) = true := by simp; omega
              go_wp2_with (first | (go_at_call 29; refine RC.out.mono ?_; rintro e w3 ⟨rfl, nq, rfl⟩) | fail)
              go_roundg q
              case measure => omega
              case rel =>
                refine ⟨q, rfl, by omega, by rw [HP2.out], ((HFr.out.drewN nq).set3 (Hs1.out) (by decide) (by omega) _ _ _), ?_, ?_, ((hmv.drewN nq).set3 (by omega) _ _ _)⟩
                · have e : tokOf b at' (foldT b at' (at' - q)) = ((at' : Int) - q, (R : Int), 0) := by
                    rw [H7.out, if_pos hgt]
                    unfold tokOf
                    rw [if_neg (by simp only; omega)]
                    simp only [Prod.mk.injEq, and_true]
                    omega
                  rw [e]
                  exact set3 (w := wr.drewN nq) Hs1.out _ _ _
                · simp only [World.setCell, Array.getElem?_modify]
                  rw [if_neg (by omega), if_neg (by omega), if_neg (by omega)]
                  exact Hs0.out
            · have b3 : decide ((l0 : Int) < (R : Int)) = false := by simp; omega
              go_wp2_with (first | (go_at_call 29; refine RC.out.mono ?_; rintro e w3 ⟨rfl, nq, rfl⟩) | fail)
              go_roundg q
              case measure => omega
              case rel =>
                refine ⟨q, rfl, by omega, by rw [HP2.out], HFr.out.drewN nq, ?_, Hs0.out, hmv.drewN nq⟩
                rw [H7.out, if_neg hgt, Htk.out]
                exact Hs1.out
        · have ET := Lib.hid (show T = (d, l, y) by rw [← HT.out, Ch1.out (by omega), Htk.out])
          have b1 : decide (0 ≤ p) = false := by simp; omega
          · skip
            have cc0 : wr.cell? ⟨w.heap.size + 1, 0, none⟩ = some (.int .i64 d) := by rw [Joins.cell_of_block Hs1.out]; rfl
            have cc1 : wr.cell? ⟨w.heap.size + 1, 1, none⟩ = some (.int .i64 l) := by rw [Joins.cell_of_block Hs1.out]; rfl
            have cc2 : wr.cell? ⟨w.heap.size + 1, 2, none⟩ = some (.int .u8 y.toNat) := by rw [Joins.cell_of_block Hs1.out]; rfl
            have d0 : wr.cell? ⟨w.heap.size, 0, none⟩ = some (.int .i64 0) := by rw [Joins.cell_of_block Hs0.out]; rfl
            have d1 : wr.cell? ⟨w.heap.size, 1, none⟩ = some (.int .i64 0) := by rw [Joins.cell_of_block Hs0.out]; rfl
            have d2 : wr.cell? ⟨w.heap.size, 2, none⟩ = some (.int .u8 0) := by rw [Joins.cell_of_block Hs0.out]; rfl
            have f0 := fr_of Hs0.out 0
            have f1 := fr_of Hs0.out 1
            have f2 := fr_of Hs0.out 2
            go_wp2_with fail
            exact bodyPost_ret (v := tokV T) (by rw [ET.out]; simp [results, Try.results25, go_sem, d0, d1, d2]) rfl ⟨rfl, ⟨_, _, HFr.out.set3 Hs0.out (by decide) (by omega) _ _ _⟩, hmv.set3 (Nat.le_refl _) _ _ _⟩
    · have hlk := fun nq => N ((((w1.alloc (fourO x0 x1 x2 x3)).alloc (fourO x0 x1 x2 x3))).drewN nq) (drewN_map KF.2.2.1 nq) (by omega)
      have HKF := Lib.hid KF
      clear Y N KF
      go_wp2_with fail
      go_quiet (fail)
      clear hlk
      obtain ⟨W2, hW2⟩ : ∃ W, ((w1.alloc (fourO x0 x1 x2 x3)).alloc (fourO x0 x1 x2 x3)).drewN nq = W := ⟨_, rfl⟩
      have KF : Fd W2 g m B b (some ad) cap at' v1 D1 := by subst hW2; exact HKF.out.drewN nq
      have K0 : W2.heap[w.heap.size]? = some (.cells #[.int .i64 0, .int .i64 0, .int .u8 0] 38) := by subst hW2; exact heap_old _ trivial (heap_old _ trivial HX0.out)
      have K1 : W2.heap[w.heap.size + 1]? = some (.cells #[.int .i64 0, .int .i64 1, .int .u8 x.toNat] 38) := by subst hW2; exact heap_old _ trivial (heap_old _ trivial HX1.out)
      have mvW : Mv B g m w W2 := by subst hW2; exact ((mvw1.alloc _).alloc _).drewN _
      rw [show (((w1.alloc (fourO x0 x1 x2 x3)).alloc (Obj.cells #[Value.int IntKind.u8 x0.toNat, Value.int IntKind.u8 x1.toNat, Value.int IntKind.u8 x2.toNat, Value.int IntKind.u8 x3.toNat] 58)).drewN nq) = W2 from hW2]
      have HKF2 := Lib.hid KF
      have HK0 := Lib.hid K0
      have HK1 := Lib.hid K1
      clear hW2 KF K0 K1 HKF q0 q1 q2 q3 c0 g1 h0 hrd hg1
      have ET := Lib.hid (show T = (0, 1, x) by
        have e := chain_none b at' at' h4 (Nat.le_refl _) (by rw [HK.out, HP.out]; omega)
        rw [← HT.out, e, Nat.sub_self]
        unfold tokOf foldT
        simp [List.getD_eq_getElem?_getD, List.getElem?_eq_getElem hat, HX.out])
      go_wp2_with fail
      go_loopg [] 0 (fun k wr => wr = W2)
      case atStart => rfl
      case round =>
        subst hrel
        have cc0 : wr.cell? ⟨w.heap.size + 1, 0, none⟩ = some (.int .i64 0) := by rw [Joins.cell_of_block HK1.out]; rfl
        have cc1 : wr.cell? ⟨w.heap.size + 1, 1, none⟩ = some (.int .i64 1) := by rw [Joins.cell_of_block HK1.out]; rfl
        have cc2 : wr.cell? ⟨w.heap.size + 1, 2, none⟩ = some (.int .u8 x.toNat) := by rw [Joins.cell_of_block HK1.out]; rfl
        have d0 : wr.cell? ⟨w.heap.size, 0, none⟩ = some (.int .i64 0) := by rw [Joins.cell_of_block HK0.out]; rfl
        have d1 : wr.cell? ⟨w.heap.size, 1, none⟩ = some (.int .i64 0) := by rw [Joins.cell_of_block HK0.out]; rfl
        have d2 : wr.cell? ⟨w.heap.size, 2, none⟩ = some (.int .u8 0) := by rw [Joins.cell_of_block HK0.out]; rfl
        have f0 := fr_of HK0.out 0
        have f1 := fr_of HK0.out 1
        have f2 := fr_of HK0.out 2
        go_wp2_with fail
        exact bodyPost_ret (v := tokV T) (by rw [ET.out]; simp [results, Try.results25, go_sem, d0, d1, d2]) rfl ⟨rfl, ⟨_, _, HKF2.out.set3 HK0.out (by decide) (by omega) _ _ _⟩, mvW.set3 (Nat.le_refl _) _ _ _⟩
  · refine (at_no b (some ad) cap g at' w1 h0 hs (by omega) (by omega)).mono ?_
    rintro e w' ⟨rfl, rfl⟩
    have eT : T = (0, 1, x) := by
      rw [← HT.out, chain_short b at' hat (by omega)]
      unfold tokOf
      simp [List.getD_eq_getElem?_getD, List.getElem?_eq_getElem hat, HX.out]
    have c0 : w1.cell? ⟨w.heap.size + 1, 0, none⟩ = some (.int .i64 0) := by rw [Joins.cell_of_block HX1.out]; rfl
    have c1 : w1.cell? ⟨w.heap.size + 1, 1, none⟩ = some (.int .i64 1) := by rw [Joins.cell_of_block HX1.out]; rfl
    have c2 : w1.cell? ⟨w.heap.size + 1, 2, none⟩ = some (.int .u8 x.toNat) := by rw [Joins.cell_of_block HX1.out]; rfl
    have d0 : w1.cell? ⟨w.heap.size, 0, none⟩ = some (.int .i64 0) := by rw [Joins.cell_of_block HX0.out]; rfl
    have d1 : w1.cell? ⟨w.heap.size, 1, none⟩ = some (.int .i64 0) := by rw [Joins.cell_of_block HX0.out]; rfl
    have d2 : w1.cell? ⟨w.heap.size, 2, none⟩ = some (.int .u8 0) := by rw [Joins.cell_of_block HX0.out]; rfl
    have f0 := fr_of HX0.out 0
    have f1 := fr_of HX0.out 1
    have f2 := fr_of HX0.out 2
    have hl0 : w.heap.size < w1.heap.size := by omega
    have hl1 : w.heap.size + 1 < w1.heap.size := by omega
    have ET := Lib.hid eT
    clear eT
    go_wp2_with fail
    exact bodyPost_ret (v := tokV T) (by rw [ET.out]; simp [results, Try.results25, go_sem, d0, d1, d2, hl0]) rfl ⟨rfl, ⟨_, _, ((HF1.out.set3 HX0.out (by decide) (by omega) _ _ _).alloc _).alloc _⟩, ((mvw1.set3 (Nat.le_refl _) _ _ _).alloc _).alloc _⟩
end Go.Proofs.Ytebmnfffmpiceaa
