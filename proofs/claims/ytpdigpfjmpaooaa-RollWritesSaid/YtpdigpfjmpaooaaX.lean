import Derived.Test.YtpdigpfjmpaooaaU
import Derived.Deep.RegionHeld3
import Derived.Deep.Cut
/-! The document's cutters. -/
namespace Go.Proofs.Ytpdigpfjmpaooaa
open Go.RowKit
set_option linter.unusedVariables false
set_option linter.unusedSimpArgs false
/-- The document's cutter at g, with some bytes left. -/
def RCutAt (W : World) (g : Nat) (le mo bi : Int) (L : List (BitVec 8)) : Prop :=
  ∃ B c, Keeps [(⟨g, 0, none⟩, .int .i64 le), (⟨g, 1, none⟩, .int .i64 mo), (⟨g, 2, none⟩, .int .i64 bi), (⟨g, 3, none⟩, .slice B L.length c)] W ∧ L.length ≤ c ∧ (B = none → c = 0) ∧ RdB W B L ∧ (∀ ad, B = some ad → ∃ cs fz, W.heap[ad.block]? = some (.cells cs 5 fz)) ∧ ∃ cs fz, W.heap[g]? = some (.cells cs 58 fz)
theorem RCutAt.kind {W : World} {g : Nat} {le mo bi : Int} {L : List (BitVec 8)} (h : RCutAt W g le mo bi L) : ∃ c fz, W.heap[g]? = some (.cells c 58 fz) := by
  obtain ⟨_, _, _, _, _, _, _, h⟩ := h; exact h
/-- It is as it was, where its blocks are. -/
theorem RCutAt.of_blocks {W W' : World} {g : Nat} {le mo bi : Int} {L : List (BitVec 8)} (h : RCutAt W g le mo bi L) (hg : W'.heap[g]? = W.heap[g]?) (h5 : ∀ (k : Nat) (cs : Array Value) (fz : Nat × Nat), W.heap[k]? = some (Obj.cells cs 5 fz) → W'.heap[k]? = W.heap[k]?) : RCutAt W' g le mo bi L := by
  obtain ⟨B, c, hk, hc, hn, hr, hb, cs, fz, hkg⟩ := h
  refine ⟨B, c, fun q hq => ?_, hc, hn, rdB_block hr (fun ad e => ?_), fun ad e => ?_, cs, fz, hg.trans hkg⟩
  · have hq2 := hk q hq
    have : q.1.block = g := by
      simp only [List.mem_cons, List.not_mem_nil, or_false] at hq
      rcases hq with rfl | rfl | rfl | rfl <;> rfl
    exact ⟨(World.cell?_of_block (by rw [this]; exact hg)).trans hq2.1, (World.frozen?_of_block (by rw [this]; exact hg)).trans hq2.2⟩
  · obtain ⟨cs, fz, h⟩ := hb ad e
    exact h5 _ _ _ h
  · obtain ⟨cs, fz, h⟩ := hb ad e
    exact ⟨cs, fz, (h5 _ _ _ h).trans h⟩
theorem RCutAt.below {W W' : World} {g : Nat} {le mo bi : Int} {L : List (BitVec 8)} (h : RCutAt W g le mo bi L) (hb : Below W.heap.size W W') : RCutAt W' g le mo bi L := by
  obtain ⟨c, fz, hk⟩ := h.kind
  exact h.of_blocks (hb.block g (Array.getElem?_eq_some_iff.1 hk).1) (fun k cs fz h => hb.block k (Array.getElem?_eq_some_iff.1 h).1)
theorem RCutAt.grown {W W' : World} {g : Nat} {le mo bi : Int} {L : List (BitVec 8)} (h : RCutAt W g le mo bi L) {row : Option Nat} (hg : W.grownBy W' row) (hr : ∀ k, row = some k → ∃ c fz, W.heap[k]? = some (.cells c 24 fz)) : RCutAt W' g le mo bi L := by
  obtain ⟨c, fz, hk⟩ := h.kind
  refine h.of_blocks (hg.block g (Array.getElem?_eq_some_iff.1 hk).1 (fun e => ?_)) (fun k cs fz h => hg.block k (Array.getElem?_eq_some_iff.1 h).1 (fun e => ?_))
  · obtain ⟨c2, fz2, h2⟩ := hr g e.symm
    rw [hk] at h2; cases h2
  · obtain ⟨c2, fz2, h2⟩ := hr k e.symm
    rw [h] at h2; cases h2
theorem RCutAt.other {W W' : World} {g g' : Nat} {le mo bi : Int} {L : List (BitVec 8)} (h : RCutAt W g le mo bi L) (h' : ∃ c fz, W.heap[g']? = some (.cells c 51 fz)) (hb : Besides [g'] W W') : RCutAt W' g le mo bi L := by
  obtain ⟨c, fz, hk⟩ := h.kind
  obtain ⟨c', fz', hk'⟩ := h'
  refine h.of_blocks (hb.block g (Array.getElem?_eq_some_iff.1 hk).1 (fun e => ?_)) (fun k cs fz h => hb.block k (Array.getElem?_eq_some_iff.1 h).1 (fun e => ?_))
  · simp at e; subst e; rw [hk] at hk'; cases hk'
  · simp at e; subst e; rw [h] at hk'; cases hk'
theorem RCutAt.store {W : World} {g : Nat} {le mo bi : Int} {L L' : List (BitVec 8)} (h : RCutAt W g le mo bi L) (B : Option Addr) (c : Nat) (hc : L'.length ≤ c) (hn : B = none → c = 0) (hr : RdB W B L') (hb : ∀ ad, B = some ad → ∃ cs fz, W.heap[ad.block]? = some (.cells cs 5 fz)) :
    RCutAt (W.setCell ⟨g, 3, none⟩ (.slice B L'.length c)) g le mo bi L' := by
  obtain ⟨B0, c0, hk, _, _, _, _, hkg⟩ := h
  have hne : ∀ ad, B = some ad → (W.setCell ⟨g, 3, none⟩ (.slice B L'.length c)).heap[ad.block]? = W.heap[ad.block]? := fun ad e => by
    obtain ⟨cs, fz, h5⟩ := hb ad e
    obtain ⟨cs', fz', h58⟩ := hkg
    refine Below.heap_setCell _ _ _ _ (fun e2 => ?_)
    rw [e2, h58] at h5; cases h5
  obtain ⟨k0, k00⟩ := hk (⟨g, 0, none⟩, .int .i64 le) (by simp)
  obtain ⟨k1, k11⟩ := hk (⟨g, 1, none⟩, .int .i64 mo) (by simp)
  obtain ⟨k2, k22⟩ := hk (⟨g, 2, none⟩, .int .i64 bi) (by simp)
  obtain ⟨k3, k33⟩ := hk (⟨g, 3, none⟩, .slice B0 L.length c0) (by simp)
  dsimp only at k0 k00 k1 k11 k2 k22 k3 k33
  refine ⟨B, c, fun q hq => ?_, hc, hn, rdB_block hr hne, fun ad e => ?_, kind_setCell hkg _ _⟩
  · simp only [List.mem_cons, List.not_mem_nil, or_false] at hq
    rcases hq with rfl | rfl | rfl | rfl
    · exact ⟨(World.cell?_setCell_other _ _ _ _ (by simp)).trans k0, (World.frozen?_setCell _ _ _ _).trans k00⟩
    · exact ⟨(World.cell?_setCell_other _ _ _ _ (by simp)).trans k1, (World.frozen?_setCell _ _ _ _).trans k11⟩
    · exact ⟨(World.cell?_setCell_other _ _ _ _ (by simp)).trans k2, (World.frozen?_setCell _ _ _ _).trans k22⟩
    · exact ⟨World.cell?_setCell_same _ _ _ k3, (World.frozen?_setCell _ _ _ _).trans k33⟩
  · obtain ⟨cs, fz, h5⟩ := hb ad e
    exact ⟨cs, fz, (hne ad e).trans h5⟩
theorem rclose_yes (g : Nat) (le mo bi : Int) (L : List (BitVec 8)) (w : World) (h : RCutAt w g le mo bi L) : Calls Try.prog 28 #[.pointer (some ⟨g, 0, none⟩)] w fun e w' => ∃ B c, e = .returned (.slice B L.length c) ∧ L.length ≤ c ∧ RdB w' B L ∧ RCutAt w' g le mo bi [] ∧ Besides [g] w w' := by
  have HS := Lib.hid (RCutAt.store (L' := []) h none 0 (by simp) (fun _ => rfl) ⟨by simp, fun j hj => by simp at hj⟩ (fun ad e => by cases e))
  obtain ⟨B, c, hk, hc, hn, hr, hb, hkg⟩ := h
  obtain ⟨c3, f3⟩ := hk (⟨g, 3, none⟩, .slice B L.length c) (by simp)
  dsimp only at c3 f3
  have HR := Lib.hid (show RdB (w.setCell ⟨g, 3, none⟩ (.slice none 0 0)) B L from rdB_block hr (fun ad e => by
    obtain ⟨cs, fz, h5⟩ := hb ad e
    obtain ⟨cs', fz', h58⟩ := hkg
    refine Below.heap_setCell _ _ _ _ (fun e2 => ?_)
    rw [e2, h58] at h5; cases h5))
  clear hk hr hb hkg
  go_enter Try.func28, Try.ntmps28
  go_wp2
  go_ret
  exact ⟨_, _, rfl, hc, HR.out, HS.out, (Besides.refl _ _).setCell _ (by simp) _⟩
theorem kept_kinds {W3 W5 W6 : World} {base : Nat} {v : Value} {ps : List (List (BitVec 8))} (b5 : Below W3.heap.size W3 W5) (ho : OwnP W5 base v ps) (grow6 : W5.grownBy W6 v.ownBlock) (k : Nat) (t : TypeId) (cs : Array Value) (fz : Nat × Nat) (ht : t ≠ 24) (h : W3.heap[k]? = some (Obj.cells cs t fz)) : W6.heap[k]? = some (Obj.cells cs t fz) := by
  have h5 := (b5.block k (Array.getElem?_eq_some_iff.1 h).1).trans h
  refine (grow6.block k (Array.getElem?_eq_some_iff.1 h5).1 (fun e => ?_)).trans h5
  obtain ⟨_, c', fz', hk'⟩ := ho.kinds k e.symm
  rw [h5] at hk'
  exact ht (by injection hk' with h1; injection h1)
set_option maxRecDepth 100000 in
set_option maxHeartbeats 4000000 in
theorem rwrite_yes (g : Nat) (le mo bi : Int) (L : List (BitVec 8)) (b : List (BitVec 8)) (A : Option Addr) (cap : Nat) (w : World) (hok : okC le mo bi) (hcut : RCutAt w g le mo bi L) (hr : RdB w A b) (hnil : A = none → cap = 0) (hc : b.length ≤ cap) (hmax : L.length + b.length ≤ 1048576) :
    Calls Try.prog 29 #[.pointer (some ⟨g, 0, none⟩), .slice A b.length cap] w fun e w' => ∃ v, e = .returned v ∧ OwnP w' w.heap.size v (splitE le mo bi (L ++ b)).1 ∧ RCutAt w' g le mo bi (splitE le mo bi (L ++ b)).2 ∧ Besides [g] w w' := by
  obtain ⟨i0, hi, hz0, hz1, hz2⟩ := info_parts info24
  have Hok := Lib.hid hok
  obtain ⟨T, hT⟩ : ∃ T, splitE le mo bi (L ++ b) = T := ⟨_, rfl⟩
  rw [hT]
  have HT := Lib.hid hT
  have HCUT := Lib.hid hcut
  obtain ⟨ck, cz, hck⟩ := hcut.kind
  have hg : g < w.heap.size := (Array.getElem?_eq_some_iff.1 hck).1
  obtain ⟨B, c, hk, hBc, hBn, hBr, _, _⟩ := hcut
  obtain ⟨k3, k33⟩ := hk (⟨g, 3, none⟩, .slice B L.length c) (by simp)
  dsimp only at k3 k33
  clear hk hok hT hck
  go_enter Try.func29, Try.ntmps29
  go_wp2_with (first | (at_builtin; refine wpList_append_bytes rfl (.tmp 9) (.tmp 13) rfl w.heap.size (.slice (some ⟨w.heap.size, 0, none⟩) 0 0) 0 [] rfl (own_empty w 5 1) B c L rfl (RdB.alloc' hBr _) hBn hBc (by omega) (by simp) ?_; intro v1 w1 own1 grow1 nn1; have b1 : Below w.heap.size w w1 := ((Below.refl _ _).alloc (Nat.le_refl _) _).grown grow1 (by simp) (own_base' (own_empty w 5 1))) | (at_builtin; refine wpList_append_bytes rfl (.tmp 14) (.tmp 15) rfl w.heap.size v1 (0 + L.length) ([] ++ bytesV L) rfl own1 A cap b rfl (RdR.below (R' := EqB) hr b1 (fun _ _ h => h)) hnil hc (by omega) b1.size ?_; intro v2 w2 own2 grow2 nn2; have b2 : Below w.heap.size w w2 := b1.grown grow2 b1.size (own_base' own1); have nn := nn2 (nn1 (by simp)); obtain ⟨ga, ca, hv2, hga⟩ := own_form own2 nn; rw [hv2] at own2 ⊢; clear nn; have m3 := keepB0 b2 k3 hg; have m33 : w2.frozen? ⟨g, 3, none⟩ = false := (b2.frozen (p := ⟨g, 3, none⟩) hg).trans k33; have hg2 : g < w2.heap.size := Nat.lt_of_lt_of_le hg b2.size))
  simp only [Nat.zero_add, List.nil_append, ← bytesV_app] at own2
  have hall : (L ++ b).length = L.length + b.length := List.length_append
  generalize L ++ b = all at *
  have rall : RdB w2 (some ⟨ga, 0, none⟩) all := RdB.own own2
  have hcall : L.length + b.length ≤ ca := own_cap own2
  have hk5 : ∀ ad, (some ⟨ga, 0, none⟩ : Option Addr) = some ad → ∃ cs fz, w2.heap[ad.block]? = some (Obj.cells cs 5 fz) := fun ad e => by
    cases e
    obtain ⟨cs, fz, h⟩ := ownsRow_cells own2 ga rfl
    exact ⟨cs, fz, h⟩
  have cut0 := (HCUT.out.below (b2.mono (Nat.le_refl _))).store (some ⟨ga, 0, none⟩) ca (by omega) (fun h => by cases h) rall hk5
  rw [hall] at cut0
  have bes0 : Besides [g] w (w2.setCell ⟨g, 3, none⟩ (.slice (some ⟨ga, 0, none⟩) (L.length + b.length) ca)) := (Besides.of_below b2).setCell _ (by simp) _
  generalize w2.setCell ⟨g, 3, none⟩ (.slice (some ⟨ga, 0, none⟩) (L.length + b.length) ca) = W0 at *
  have HALL := Lib.hid hall
  have hall1 : all.length ≤ 1048576 := by omega
  clear hall own2 own1 grow1 grow2 nn1 nn2 hv2 b1 b2 m3 m33 hg2 rall hcall hk5 hBr k3 k33 hr HCUT hga
  go_loopw [5] (fun v wr => ∃ (r : List (BitVec 8)) (p : List (List (BitVec 8))), RCutAt wr g le mo bi r ∧ (p ++ (splitE le mo bi r).1, (splitE le mo bi r).2) = T ∧ r.length + p.length ≤ 1048576 ∧ OwnP wr w.heap.size v p ∧ Besides [g] w wr) (fun _ wr => match wr.cell? ⟨g, 3, none⟩ with | some (.slice _ n _) => n | _ => 0)
  case atStart => exact ⟨all, [], cut0, by simpa using HT.out, by simpa using hall1, OwnP.nil _ _, bes0⟩
  case round =>
    obtain ⟨r, p, hcw, hpt, hlen, hown, hbes⟩ := hrel
    have hsw := hbes.size
    have HCW := Lib.hid hcw
    obtain ⟨B2, c2, hk, hc2, hn2, hr2, hb2, ck, cz, hck⟩ := hcw
    have hgw : g < wr.heap.size := (Array.getElem?_eq_some_iff.1 hck).1
    obtain ⟨k0, k00⟩ := hk (⟨g, 0, none⟩, .int .i64 le) (by simp)
    obtain ⟨k1, k11⟩ := hk (⟨g, 1, none⟩, .int .i64 mo) (by simp)
    obtain ⟨k2, k22⟩ := hk (⟨g, 2, none⟩, .int .i64 bi) (by simp)
    obtain ⟨k3, k33⟩ := hk (⟨g, 3, none⟩, .slice B2 r.length c2) (by simp)
    dsimp only at k0 k00 k1 k11 k2 k22 k3 k33
    have NX := fun W (h : Below wr.heap.size wr W) => rnext_any le mo bi r B2 c2 W Hok.out (RdR.below (R' := EqB) hr2 h (fun _ _ h => h)) hc2
    have hnx := fun h => next_some le mo bi Hok.out r h
    have hsp := fun h => splitE_step le mo bi Hok.out r h
    have hsd := fun h => splitE_done le mo bi r h
    obtain ⟨⟨n, ok⟩, hN⟩ : ∃ N, nextL le mo bi r 0 0 = N := ⟨_, rfl⟩
    rw [hN] at NX hnx hsp hsd
    simp only at NX hnx hsp hsd
    have HSP := Lib.hid hsp
    have HSD := Lib.hid hsd
    have HNX := Lib.hid hnx
    have HP := Lib.hid hpt
    have HB := Lib.hid hb2
    have HO := Lib.hid hown
    have HRD := Lib.hid hr2
    replace NX := Lib.hid NX
    clear hk hb2 hck hN hnx hsp hsd hpt hown hr2
    go_upto_region 3 with fail
    go_region_held3 (fun W => W.cell? ⟨g, 0, none⟩ = some (.int .i64 le) ∧ W.cell? ⟨g, 1, none⟩ = some (.int .i64 mo) ∧ W.cell? ⟨g, 2, none⟩ = some (.int .i64 bi) ∧ W.cell? ⟨g, 3, none⟩ = some (.slice B2 r.length c2)) (with_reducible repeat' first | assumption | apply And.intro | apply keepA | apply keepD | refine keepB (by assumption) ?_)
      (first | (go_at_call 31; refine (NX.out _ (Below.refl _ _).drew).mono ?_; rintro e w3 ⟨rfl, b3⟩))
    have b30 : Below wr.heap.size wr w3 := (Below.refl _ _).drew.trans b3
    have cut3 := HCW.out.below b30
    have o3 := HO.out.below b30
    have bes3 := hbes.below b30
    have m3 := keepB b30 k3
    have f3 : w3.frozen? ⟨g, 3, none⟩ = false := (b30.frozen (p := ⟨g, 3, none⟩) hgw).trans k33
    have z3 := b30.size
    have hg3 : g < w3.heap.size := by omega
    have hg31 : g < w3.heap.size + 1 := by omega
    clear b3 k0 k00 k1 k11 k2 k22 k33
    cases ok with
    | false =>
      have hT2 := HP.out
      rw [HSD.out rfl] at hT2
      simp only [List.append_nil] at hT2
      have HT2 := Lib.hid hT2
      clear hT2
      go_wp2
      go_ret
      exact ⟨_, rfl, by rw [← HT2.out]; exact o3, by rw [← HT2.out]; exact cut3, bes3⟩
    | true =>
      obtain ⟨n1, n2⟩ := HNX.out rfl
      have hpt := HP.out
      rw [HSP.out rfl] at hpt
      simp only at hpt
      obtain ⟨rd, hBa, _⟩ := RdB.at' HRD.out 0 (by omega)
      subst hBa
      have hrd3 : RdB w3 (some rd) r := RdR.below (R' := EqB) HRD.out b30 (fun _ _ h => h)
      have tk := hrd3.take n
      have hdrop := hrd3.drop n c2 n2 hc2
      have hlt2 : (r.take n).length = n := by rw [List.length_take]; omega
      have hld : (r.drop n).length = r.length - n := List.length_drop
      obtain ⟨q, hq⟩ : ∃ q, r.take n = q := ⟨_, rfl⟩
      obtain ⟨r', hr'⟩ : ∃ q, r.drop n = q := ⟨_, rfl⟩
      rw [hq] at hlt2 tk hpt
      rw [hr'] at hld hdrop hpt
      have HQ := Lib.hid hlt2
      have HL := Lib.hid hld
      have HPT := Lib.hid hpt
      have HDR := Lib.hid hdrop
      have HO3 := Lib.hid o3
      have hqn : q.length ≤ n := by omega
      have hr2 : r'.length ≤ c2 - n := by omega
      have hnc : (n : Int) ≤ c2 := by omega
      have hnr : (n : Int) ≤ r.length := by omega
      have hrm := HRD.out.1
      obtain ⟨kc, kz, hkd⟩ := HB.out rd rfl
      have hkd3 : w3.heap[rd.block]? = some (Obj.cells kc 5 kz) := (b30.block _ (Array.getElem?_eq_some_iff.1 hkd).1).trans hkd
      have HKD := Lib.hid hkd3
      have hrd3s : rd.block < w3.heap.size := (Array.getElem?_eq_some_iff.1 hkd3).1
      obtain ⟨gk, gz, hgk⟩ := cut3.kind
      have HGK := Lib.hid hgk
      clear hlt2 hld hpt hdrop o3 hq hr' hrd3 hkd hkd3 hgk
      go_wp2_with (first | (at_builtin; refine wpList_append_bytes rfl (.tmp 35) (.tmp 41) rfl w3.heap.size (.slice (some ⟨w3.heap.size, 0, none⟩) 0 0) 0 [] rfl (own_empty w3 5 1) (some rd) c2 q (by rw [HQ.out]; rfl) (RdB.alloc' tk _) (fun h => by cases h) (by omega) (by omega) (by simp) ?_; intro u w4 ownu growu nnu; have b4 : Below w3.heap.size w3 w4 := ((Below.refl _ _).alloc (Nat.le_refl _) _).grown growu (by simp) (own_base' (own_empty w3 5 1)); have nu := nnu (by simp); clear nnu growu; rw [Nat.zero_add, List.nil_append] at ownu; obtain ⟨gu, cu, hu, hgu⟩ := own_form ownu nu; subst hu; have z4 := b4.size; have b5 : Below w3.heap.size w3 (w4.alloc (.cells #[Value.slice (some ⟨gu, 0, none⟩) q.length cu] 24)) := b4.alloc b4.size _; obtain ⟨vs, hv, hp⟩ := HO3.out.below b5; have hq : (w4.alloc (.cells #[Value.slice (some ⟨gu, 0, none⟩) q.length cu] 24)).ownsRow w.heap.size 5 1 (.slice (some ⟨gu, 0, none⟩) q.length cu) q.length (bytesV q) := own_mono (own_below ownu ((Below.refl _ _).alloc (Nat.le_refl _) _)) (by omega)) | (at_builtin; go_loud (refine wpList_append_own _ rfl (.tmp 34) (.tmp 43) 42 rfl w.heap.size 24 i0 (.slice none 0 0) 1 24 Try.underlying42 hi hz0 hz1 hz2 rfl (by decide) _ p.length vs rfl hv ⟨w4.heap.size, 0, none⟩ 1 1 [Value.slice (some ⟨gu, 0, none⟩) q.length cu] rfl rfl (cell_one_new _ _ _) (oneS _ ⟨_, _, _, rfl⟩) (by unfold maxLen; omega) (by omega) (by simp <;> omega) ?_; intro v6 w6 own6 grow6 _; have hb6 := kept_kinds b5 (HO3.out.below b5) grow6; have hgb6 := (hb6 g 58 _ _ (by decide) HGK.out).trans HGK.out.symm; have m6 : w6.cell? ⟨g, 3, none⟩ = some (.slice (some rd) r.length c2) := (World.cell?_of_block hgb6).trans m3; have f6 : w6.frozen? ⟨g, 3, none⟩ = false := (World.frozen?_of_block hgb6).trans f3; have hkd6 := (hb6 rd.block 5 _ _ (by decide) HKD.out); obtain ⟨g6, c6, hv6⟩ := Joins.ownsRow_form own6 (by omega); subst hv6)))
      have k6 := (HO3.out.below b5).kinds
      have cut6 := (cut3.below b5).grown grow6 (fun k hk => (k6 k hk).2)
      have bes6 := (bes3.below b5).grown grow6 (fun k hk => by obtain ⟨h1, c', fz, h2⟩ := k6 k hk; exact ⟨h1, c', _, fz, h2⟩)
      have hEb : ∀ ad, (if c2 = n then some rd else some (rd.add n)) = some ad → ad.block = rd.block := fun ad e => by
        split at e <;> cases e
        · rfl
        · unfold Addr.add; split <;> rfl
      have hEn : (if c2 = n then some rd else some (rd.add n)) = none → c2 - n = 0 := fun h => by split at h <;> cases h
      have hrdr : RdB w6 (if c2 = n then some rd else some (rd.add n)) r' := rdB_block HDR.out (fun ad e => by rw [hEb ad e]; exact hkd6.trans HKD.out.symm)
      have st := cut6.store _ (c2 - n) hr2 hEn hrdr (fun ad e => ⟨_, _, by rw [hEb ad e]; exact hkd6⟩)
      rw [HL.out] at st
      have o6 := OwnP.push hv hp hq nu grow6 own6
      go_roundw
      case rel => exact ⟨r', p ++ [q], st, by rw [List.append_assoc]; exact HPT.out, by rw [HL.out]; simp; omega, o6.besides ((Besides.refl _ _).setCell ⟨g, 3, none⟩ (List.mem_singleton.2 rfl) _) (by simp; omega), bes6.setCell _ (by simp) _⟩
      case measure =>
        rw [World.cell?_setCell_same _ _ _ m6, k3]
        show r.length - n < r.length
        omega
end Go.Proofs.Ytpdigpfjmpaooaa
