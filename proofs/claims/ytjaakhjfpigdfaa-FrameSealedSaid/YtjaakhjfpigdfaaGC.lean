import Derived.Test.YtjaakhjfpigdfaaGB
import Derived.Test.YtjaakhjfpigdfaaO
import Derived.Test.YtjaakhjfpigdfaaW2
import Derived.WalkLawsBesides
import Derived.Defers
import Derived.Recover
import Derived.Laws.Pointers
import Derived.Test.YtjaakhjfpigdfaaFD
import Derived.Test.YtjaakhjfpigdfaaV7
import Derived.Test.YtjaakhjfpigdfaaD4
import Derived.Test.YtjaakhjfpigdfaaFE
import Derived.Lib.SlBytesConst
/-! Frames: the reader. -/
namespace Go.Proofs.Ytjaakhjfpigdfaa
open Go.RowKit
set_option linter.unusedVariables false
set_option linter.unusedSimpArgs false
/-- What is left to a reader in block g: l. -/
def RdrAt (W0 w : World) (g : Nat) (l : By) : Prop := Below W0.heap.size W0 w ∧ W0.heap.size ≤ g ∧ ∃ sv, w.heap[g]? = some (.cells #[sv] 136 (0, 0)) ∧ EqN W0 l sv
def badF : Ending := .panicked [{ v := .iface 44 (.int .i64 180), recovered := false }]
set_option maxRecDepth 100000 in
theorem run_take_u (A : Option Addr) (n c m : Nat) (hm : m ≤ c) (w : World) : (Instr.sliceAt 35 (.slice A n c) none (some (.int .u64 (m : Int))) none).run Try.prog w = .ok (.slice A m c) w := by
  have h2 : (m : Int) ≤ (c : Int) := by omega
  rw [run_sliceAt_slice w 35 _ _ _ _ Try.underlying35]
  rw [run_slice_h w 35 A n c Try.underlying35 .u64 m (by omega) h2]
  simp [go_sem, Try.underlying35]
set_option maxRecDepth 100000 in
theorem run_from_u (A : Option Addr) (n c k : Nat) (hk : k ≤ n) (hm : n ≤ c) (w : World) : (Instr.sliceAt 35 (.slice A n c) (some (.int .u64 (k : Int))) none none).run Try.prog w = .ok (.slice (if c = k then A else A.map fun x => x.add k) (n - k) (c - k)) w := by
  have h0 : (0 : Int) ≤ (k : Int) := by omega
  have h1 : (k : Int) ≤ (n : Int) := by omega
  rw [run_sliceAt_slice w 35 _ _ _ _ Try.underlying35]
  rw [run_slice_l w 35 A n c Try.underlying35 .u64 k h0 h1]
  simp [go_sem, Try.underlying35]
set_option maxRecDepth 100000 in
set_option maxHeartbeats 4000000 in
theorem ftake_any (W0 : World) (g : Nat) (l : By) (n : Nat) (w : World) (h : RdrAt W0 w g l) (hn : n < 18446744073709551616) : Calls Try.prog 108 #[.pointer (some ⟨g, 0, none⟩), .int .u64 (n : Int)] w fun e w' =>
    (∃ r, tk n l = some r ∧ ∃ u, e = .returned u ∧ EqN W0 r.1 u ∧ RdrAt W0 w' g r.2 ∧ Bes g w w') ∨ (tk n l = none ∧ e = badF ∧ Bes g w w') := by
  obtain ⟨hb, hg0, sv, hg, hl⟩ := h
  obtain ⟨A, c, rfl, hc, hr, hnil⟩ := hl
  have hlm := hr.1
  have hq : w.cell? ⟨g, 0, none⟩ = some (.slice A l.length c) := by rw [Joins.cell_of_block hg]; rfl
  have hf := fr_of hg 0
  by_cases hle : n ≤ l.length
  · have ht : tk n l = some (l.take n, l.drop n) := by unfold tk; rw [if_pos hle]
    have hE : EqN W0 l (.slice A l.length c) := ⟨A, c, rfl, hc, hr, hnil⟩
    have e1 : EqN W0 (l.take n) (.slice A n c) := ⟨A, c, by rw [List.length_take]; congr 1; omega, by rw [List.length_take]; omega, hr.take n, hnil⟩
    have e2 := hE.cut n (l.length - n) (by omega)
    rw [List.take_of_length_le (by rw [List.length_drop]; omega)] at e2
    have s1 := fun w => run_take_u A l.length c n (by omega) w
    have s2 := fun w => run_from_u A l.length c n hle hc w
    obtain ⟨A2, hA2⟩ : ∃ A2, (if c = n then A else A.map fun x => x.add n) = A2 := ⟨_, rfl⟩
    rw [hA2] at e2 s2
    obtain ⟨L, hL⟩ : ∃ L, l.length = L := ⟨_, rfl⟩
    rw [hL] at e2 s1 s2 hq hle hc hlm
    have i1 : (n : Int) ≤ (L : Int) := by omega
    have i2 : (L : Int) ≤ (c : Int) := by omega
    have HT := Lib.hid ht
    have E1 := Lib.hid e1
    have E2 := Lib.hid e2
    have HB := Lib.hid hb
    have HG0 := Lib.hid hg0
    have HG := Lib.hid hg
    rw [hL] at HG
    clear ht e1 e2 hb hg0 hg hE hr hnil hL hA2
    go_enter Try.func108, Try.ntmps108
    go_wp2
    go_ret
    refine .inl ⟨_, HT.out, _, rfl, E1.out, ⟨?_, HG0.out, _, ?_, E2.out⟩, (Bes.refl g w).setCell 0 _⟩
    · exact ((Bes.refl g w).setCell 0 _).to_below HG0.out HB.out.size |> fun b => HB.out.trans b
    · rw [setCell_eq_setRow w g 0 _ 136 (0, 0) _ HG.out]
      exact setRow_heap w g _ _ 136 _ HG.out
  · have ht : tk n l = none := by unfold tk; rw [if_neg hle]
    obtain ⟨L, hL⟩ : ∃ L, l.length = L := ⟨_, rfl⟩
    rw [hL] at hq hle hc hlm
    have HT := Lib.hid ht
    clear ht hb hg0 hg hr hnil hL
    go_enter Try.func108, Try.ntmps108
    go_wp2
    exact ⟨rfl, .inr ⟨HT.out, rfl, Bes.refl _ _⟩⟩
set_option maxRecDepth 100000 in
set_option maxHeartbeats 4000000 in
theorem fvarint_any (W0 : World) (g : Nat) (l : By) (w : World) (h : RdrAt W0 w g l) : Calls Try.prog 111 #[.pointer (some ⟨g, 0, none⟩)] w fun e w' =>
    (∃ r, vr l = some r ∧ r.1 < 18446744073709551616 ∧ e = .returned (.int .u64 (r.1 : Int)) ∧ RdrAt W0 w' g r.2 ∧ Bes g w w') ∨ (vr l = none ∧ e = badF ∧ Bes g w w') := by
  have h0 := h
  obtain ⟨hb, hg0, sv, hg, hl⟩ := h
  have hlw := hl.below hb
  obtain ⟨A, c, rfl, hc, hr, hnil⟩ := hlw
  have hlm := hr.1
  have hq : w.cell? ⟨g, 0, none⟩ = some (.slice A l.length c) := by rw [Joins.cell_of_block hg]; rfl
  have RD := read_any l A l.length c w rfl hr hc
  unfold readV at RD
  obtain ⟨⟨r1, r2, r3⟩, hR⟩ : ∃ r, vread l 0 0 = r := ⟨_, rfl⟩
  rw [hR] at RD
  simp only at RD
  by_cases h3 : r3 = 0
  · subst h3
    obtain ⟨o1, o2, o3, o4⟩ := one_law l r1 r2 hR
    have hv : vr l = some (r1, l.drop r2) := by unfold vr; rw [hR]; rfl
    have ht : tk r2 l = some (l.take r2, l.drop r2) := by unfold tk; rw [if_pos o2]
    have TK := Lib.hid (ftake_any W0 g l r2 w h0 (by omega))
    have HT := Lib.hid ht
    have HV := Lib.hid hv
    have HO := Lib.hid o3
    have HRD := Lib.hid RD
    obtain ⟨L, hL⟩ : ∃ L, l.length = L := ⟨_, rfl⟩
    rw [hL] at hq hlm o2 HRD
    clear h0 hb hg0 hg hl hc hr hnil RD hR o4 hv ht hL o3
    go_enter Try.func111, Try.ntmps111
    go_wp2_with fail
    refine HRD.out.mono ?_
    rintro e w2 ⟨rfl, rfl⟩
    clear HRD
    go_wp2_with fail
    refine TK.out.mono ?_
    rintro e w2 (⟨r, hr, u, rfl, hu, hrd, hbes⟩ | ⟨hr, _, _⟩)
    · rw [HT.out] at hr
      obtain rfl := Option.some.inj hr
      have HRD := Lib.hid hrd
      have HBS := Lib.hid hbes
      clear hr hrd hbes TK hu
      go_wp2
      go_ret
      exact .inl ⟨_, HV.out, HO.out, rfl, HRD.out, HBS.out⟩
    · rw [HT.out] at hr
      cases hr
  · have hv : vr l = none := by unfold vr; rw [hR]; exact if_neg h3
    have HV := Lib.hid hv
    have HRD := Lib.hid RD
    obtain ⟨L, hL⟩ : ∃ L, l.length = L := ⟨_, rfl⟩
    rw [hL] at hq hlm HRD
    have hne : ((r3 : Int) != 0) = true := by simp; omega
    clear h0 hb hg0 hg hl hc hr hnil RD hR hv hL h3
    go_enter Try.func111, Try.ntmps111
    go_wp2_with fail
    refine HRD.out.mono ?_
    rintro e w2 ⟨rfl, rfl⟩
    clear HRD
    go_wp2
    exact ⟨rfl, .inr ⟨HV.out, rfl, Bes.refl _ _⟩⟩
set_option maxRecDepth 100000 in
set_option maxHeartbeats 4000000 in
theorem fnumber_any (W0 : World) (g : Nat) (l : By) (w : World) (h : RdrAt W0 w g l) : Calls Try.prog 109 #[.pointer (some ⟨g, 0, none⟩)] w fun e w' =>
    (∃ r, nr l = some r ∧ r.1 ≤ 1073741824 ∧ e = .returned (.int .i64 (r.1 : Int)) ∧ RdrAt W0 w' g r.2 ∧ Bes g w w') ∨ (nr l = none ∧ e = badF ∧ Bes g w w') := by
  have V := Lib.hid (fvarint_any W0 g l w h)
  clear h
  go_enter Try.func109, Try.ntmps109
  go_wp2_with fail
  refine V.out.mono ?_
  rintro e w2 (⟨⟨x, l2⟩, hv, hx, rfl, hrd, hbes⟩ | ⟨hv, rfl, hbes⟩)
  · simp only at hx hrd ⊢
    have HRD := Lib.hid hrd
    have HBS := Lib.hid hbes
    by_cases hle : x ≤ 1073741824
    · have HN := Lib.hid (show nr l = some (x, l2) by unfold nr; rw [hv, Option.bind_some, if_pos hle])
      clear hv hrd hbes V
      go_wp2
      go_ret
      exact .inl ⟨_, HN.out, hle, rfl, HRD.out, HBS.out⟩
    · have HN := Lib.hid (show nr l = none by unfold nr; rw [hv, Option.bind_some, if_neg hle])
      clear hv hrd hbes V
      go_wp2
      exact ⟨rfl, .inr ⟨HN.out, rfl, HBS.out⟩⟩
  · have HN := Lib.hid (show nr l = none by unfold nr; rw [hv]; rfl)
    have HBS := Lib.hid hbes
    clear hv hbes V
    unfold badF
    go_wp2
    exact ⟨rfl, .inr ⟨HN.out, rfl, HBS.out⟩⟩
set_option maxRecDepth 100000 in
set_option maxHeartbeats 4000000 in
theorem feight_any (W0 : World) (g : Nat) (l : By) (w : World) (h : RdrAt W0 w g l) : Calls Try.prog 110 #[.pointer (some ⟨g, 0, none⟩)] w fun e w' =>
    (∃ r, wr8 l = some r ∧ e = .returned (.int .u64 (r.1.toNat : Int)) ∧ RdrAt W0 w' g r.2 ∧ Bes g w w') ∨ (wr8 l = none ∧ e = badF ∧ Bes g w w') := by
  have V := Lib.hid (ftake_any W0 g l 8 w h (by decide))
  clear h
  go_enter Try.func110, Try.ntmps110
  go_wp2_with fail
  refine V.out.mono ?_
  rintro e w2 (⟨⟨p, l2⟩, hv, u, rfl, hu, hrd, hbes⟩ | ⟨hv, rfl, hbes⟩)
  · simp only at hu hrd
    have hpl : p.length = 8 := by
      unfold tk at hv
      split at hv
      · obtain ⟨rfl, _⟩ := Prod.mk.inj (Option.some.inj hv)
        rw [List.length_take]; omega
      · cases hv
    obtain ⟨x, hx1, _, hx2⟩ := numOf_word p 8 1 (by omega) (by omega)
    have hwr : wr8 l = some (x, l2) := by
      unfold wr8
      rw [hv, Option.bind_some, ← hx2, BitVec.ofNat_toNat]
      simp
    obtain ⟨A, c, rfl, hc, hr, hnil⟩ := hu.below hrd.1
    have W := word_back x 8 p.length c 64 1 p A w2 rfl hr hc hx1 (Or.inr (Or.inr (Or.inr ⟨rfl, rfl⟩))) (Or.inl rfl)
    rw [Nat.mod_eq_of_lt (show x.toNat < 2 ^ (8 * 8) from x.isLt)] at W
    have HW := Lib.hid W
    have HWR := Lib.hid hwr
    have HRD := Lib.hid hrd
    have HBS := Lib.hid hbes
    clear hv hrd hbes V hx1 hx2 hwr hc hr hnil hu W hpl
    go_wp2_with fail
    refine HW.out.mono ?_
    rintro e w3 ⟨rfl, rfl⟩
    clear HW
    go_wp2
    go_ret
    exact .inl ⟨_, HWR.out, rfl, HRD.out, HBS.out⟩
  · have HN := Lib.hid (show wr8 l = none by unfold wr8; rw [hv]; rfl)
    have HBS := Lib.hid hbes
    clear hv hbes V
    unfold badF
    go_wp2
    exact ⟨rfl, .inr ⟨HN.out, rfl, HBS.out⟩⟩
end Go.Proofs.Ytjaakhjfpigdfaa
/-! Frames: what catches a frame's refusal. -/
namespace Go.Proofs.Ytjaakhjfpigdfaa
open Go.RowKit
set_option linter.unusedVariables false
set_option linter.unusedSimpArgs false
def zeroC : Array Value := #[.int .i64 0, .int .i64 0, .int .u64 0, .int .u64 0, .int .i64 0, .slice none 0 0, .int .i64 0, .int .u64 0]
theorem zeroC_one : zeroC.all (·.oneCell') = true := by kernel_rfl
theorem assert44 (w : World) : (Instr.typeAssert (.iface 44 (.int .i64 180)) 20 44 true).run Try.prog w = .ok (.tuple #[.int .i64 180, .bool true]) w := by kernel_rfl
set_option maxRecDepth 100000 in
set_option maxHeartbeats 4000000 in
theorem catch_bad (g1 g2 : Nat) (w : World) (h1 : w.heap[g1]? = some (.cells zeroC 83 (0, 0))) (h2 : w.heap[g2]? = some (.cells #[.int .i64 0] 44 (0, 0))) (hne : g1 ≠ g2) :
    CallsD Try.prog 107 #[.pointer (some ⟨g1, 0, none⟩), .pointer (some ⟨g2, 0, none⟩)] (.panicking [{ v := .iface 44 (.int .i64 180), recovered := false }]) w fun e u' w' =>
      e = .returned (.tuple #[]) ∧ u' = .panicking [{ v := .iface 44 (.int .i64 180), recovered := true }] ∧ w'.heap[g1]? = some (.cells zeroC 83 (0, 0)) ∧ w'.heap[g2]? = some (.cells #[.int .i64 180] 44 (0, 0)) ∧ (∀ B, B ≤ g1 → B ≤ g2 → Below B w w') := by
  refine callsD_of_wpS Try.func107 rfl fun c₀ cs hu => ?_
  apply wpS_seq
  apply wpS_region
  simp [wpOpsS, go_sem, recoverD, hu, Try.ntmps107, Exit.thenS]
  rw [show (Array.replicate 16 undef : Array Value) = #[undef, undef, undef, undef, undef, undef, undef, undef, undef, undef, undef, undef, undef, undef, undef, undef] from rfl]
  simp only [List.setIfInBounds_toArray, List.set_cons_zero, List.set_cons_succ, List.append_toArray, List.cons_append, List.nil_append]
  refine wpS_of_wp ?_
  have hta := assert44
  have hz : w.setRow g1 zeroC = w := Go.setRow_self w g1 zeroC 83 (0, 0) h1
  have HS83 := Lib.hid (show (Try.prog.info? 83).map (·.size) = some zeroC.size by kernel_rfl)
  have hq : w.cell? ⟨g2, 0, none⟩ = some (.int .i64 0) := by rw [Joins.cell_of_block h2]; rfl
  have hf := fr_of h2 0
  have H1 := Lib.hid h1
  have H2 := Lib.hid h2
  have HN := Lib.hid hne
  have HZ := Lib.hid hz
  clear h1 h2 hne hz
  go_wp2_with (first | ((with_reducible show wpList _ _ _ (⟨none, .store 83 (.tmp 0) (.tmp 16), _, _, _, _⟩ :: _) _ _); refine wpList_store_row rfl 83 (.tmp 0) (.tmp 16) rfl g1 zeroC rfl rfl 83 _ H1.out HS83.out rfl zeroC_one ?_; rw [HZ.out]) | fail)
  refine ⟨rfl, _, rfl, .tuple #[], by simp [results, Try.results107], rfl, rfl, ?_, ?_, fun B h1 h2 => ((Bes.refl g2 w).setCell 0 _).to_below h2 (Nat.le_trans h2 (Nat.le_of_lt (Array.getElem?_eq_some_iff.1 H2.out).1))⟩
  · exact (((Bes.refl g2 w).setCell 0 _).block g1 (Array.getElem?_eq_some_iff.1 H1.out).1 HN.out).trans H1.out
  · rw [setCell_eq_setRow w g2 0 _ 44 (0, 0) _ H2.out]
    exact setRow_heap w g2 _ _ 44 _ H2.out
set_option maxRecDepth 100000 in
set_option maxHeartbeats 4000000 in
theorem catch_idle (g1 g2 : Nat) (w : World) :
    CallsD Try.prog 107 #[.pointer (some ⟨g1, 0, none⟩), .pointer (some ⟨g2, 0, none⟩)] .returning w fun e u' w' => e = .returned (.tuple #[]) ∧ u' = .returning ∧ w' = w := by
  refine callsD_of_wpS Try.func107 rfl fun c₀ cs hu => ?_
  apply wpS_seq
  apply wpS_region
  simp [wpOpsS, go_sem, recoverD, hu, Try.ntmps107, Exit.thenS]
  rw [show (Array.replicate 16 undef : Array Value) = #[undef, undef, undef, undef, undef, undef, undef, undef, undef, undef, undef, undef, undef, undef, undef, undef] from rfl]
  simp only [List.setIfInBounds_toArray, List.set_cons_zero, List.set_cons_succ, List.append_toArray, List.cons_append, List.nil_append]
  refine wpS_of_wp ?_
  go_wp2
  refine ⟨rfl, .returning, by cases c₀; simp_all, .tuple #[], by simp [results, Try.results107], rfl, rfl, rfl⟩
end Go.Proofs.Ytjaakhjfpigdfaa
/-! Frames: the state of parse. -/
namespace Go.Proofs.Ytjaakhjfpigdfaa
open Go.RowKit
set_option linter.unusedVariables false
set_option linter.unusedSimpArgs false
/-- parse at work: its results in g1, g2, its reader in g3 with l left, its frame in g4. -/
structure PS (w wi : World) (g1 g2 g3 g4 : Nat) (XC : Array Value) (l : By) : Prop where
  rd : RdrAt w wi g3 l
  h1 : wi.heap[g1]? = some (.cells zeroC 83 (0, 0))
  h2 : wi.heap[g2]? = some (.cells #[.int .i64 0] 44 (0, 0))
  h4 : wi.heap[g4]? = some (.cells XC 83 (0, 0))
  n1 : w.heap.size ≤ g1
  n12 : g1 < g2
  n23 : g2 < g3
  n34 : g3 < g4
theorem PS.bes {w wi w' : World} {g1 g2 g3 g4 : Nat} {XC : Array Value} {l l' : By} (h : PS w wi g1 g2 g3 g4 XC l) (hr : RdrAt w w' g3 l') (hb : Bes g3 wi w') : PS w w' g1 g2 g3 g4 XC l' := by
  have a1 := h.n12; have a2 := h.n23; have a3 := h.n34
  refine ⟨hr, ?_, ?_, ?_, h.n1, h.n12, h.n23, h.n34⟩
  · exact (hb.block g1 (Array.getElem?_eq_some_iff.1 h.h1).1 (by omega)).trans h.h1
  · exact (hb.block g2 (Array.getElem?_eq_some_iff.1 h.h2).1 (by omega)).trans h.h2
  · exact (hb.block g4 (Array.getElem?_eq_some_iff.1 h.h4).1 (by omega)).trans h.h4
theorem PS.low {w wi w' : World} {g1 g2 g3 g4 : Nat} {XC : Array Value} {l : By} (h : PS w wi g1 g2 g3 g4 XC l) (hb : Below wi.heap.size wi w') : PS w w' g1 g2 g3 g4 XC l := by
  obtain ⟨r1, r2, sv, r3, r4⟩ := h.rd
  exact ⟨⟨r1.trans (hb.mono r1.size), r2, sv, keepH hb r3, r4⟩, keepH hb h.h1, keepH hb h.h2, keepH hb h.h4, h.n1, h.n12, h.n23, h.n34⟩
theorem PS.store {w wi : World} {g1 g2 g3 g4 : Nat} {XC : Array Value} {l : By} (h : PS w wi g1 g2 g3 g4 XC l) (k : Nat) (v : Value) : PS w (wi.setCell ⟨g4, k, none⟩ v) g1 g2 g3 g4 (XC.setIfInBounds k v) l := by
  have a1 := h.n12; have a2 := h.n23; have a3 := h.n34; have a0 := h.n1
  have hb := (Bes.refl g4 wi).setCell k v
  obtain ⟨r1, r2, sv, r3, r4⟩ := h.rd
  refine ⟨⟨r1.trans (hb.to_below (by omega) r1.size), r2, sv, (hb.block g3 (Array.getElem?_eq_some_iff.1 r3).1 (by omega)).trans r3, r4⟩, ?_, ?_, ?_, h.n1, h.n12, h.n23, h.n34⟩
  · exact (hb.block g1 (Array.getElem?_eq_some_iff.1 h.h1).1 (by omega)).trans h.h1
  · exact (hb.block g2 (Array.getElem?_eq_some_iff.1 h.h2).1 (by omega)).trans h.h2
  · rw [setCell_eq_setRow wi g4 k _ 83 (0, 0) _ h.h4]
    exact setRow_heap wi g4 _ _ 83 _ h.h4
theorem PS.cell {w wi : World} {g1 g2 g3 g4 : Nat} {XC : Array Value} {l : By} (h : PS w wi g1 g2 g3 g4 XC l) (k : Nat) (v : Value) (hk : XC[k]? = some v) : wi.cell? ⟨g4, k, none⟩ = some v := by rw [Joins.cell_of_block h.h4]; exact hk
theorem PS.fr {w wi : World} {g1 g2 g3 g4 : Nat} {XC : Array Value} {l : By} (h : PS w wi g1 g2 g3 g4 XC l) (k : Nat) : wi.frozen? ⟨g4, k, none⟩ = false := fr_of h.h4 k
theorem make107 (fn : Fn) (first cap : Array Value) (w : World) : (Instr.makeFunc fn first cap).run Try.prog w = .ok (.func fn first cap) w := rfl
/-- The value that parse hands back. -/
def PR (b : By) (w : World) (e : Ending) (w' : World) : Prop :=
  (∃ f u, parseF b = some f ∧ e = .returned (.tuple #[frV f u, .int .i64 0]) ∧ EqN w' f.body u ∧ Below w.heap.size w w') ∨ (parseF b = none ∧ e = .returned (.tuple #[.agg zeroC, .int .i64 180]) ∧ Below w.heap.size w w')
def dfr (g1 g2 : Nat) : Deferred := { target := .fn (.func 107) #[.pointer (some ⟨g1, 0, none⟩), .pointer (some ⟨g2, 0, none⟩)], args := #[] }
set_option maxRecDepth 100000 in
theorem parse_out (g1 g2 : Nat) (XC : Array Value) (ev : Int) (w' : World) (tm : Array Value) (ht : tm[2]?.getD undef = .pointer (some ⟨g1, 0, none⟩)) (ht3 : tm[3]?.getD undef = .pointer (some ⟨g2, 0, none⟩)) (h1 : w'.heap[g1]? = some (.cells XC 83 (0, 0))) (hx : (Try.prog.info? 83).map (·.size) = some XC.size) (h2 : w'.heap[g2]? = some (.cells #[.int .i64 ev] 44 (0, 0))) :
    (results Try.f96 tm).run Try.prog w' = .ok (.tuple #[.agg XC, .int .i64 ev]) w' := by
  have e1 := run_loadVar_row (P := Try.prog) w' g1 83 83 XC (0, 0) _ h1 Try.underlying83 rfl hx
  have e0 : w'.cell? ⟨g2, 0, none⟩ = some (.int .i64 ev) := by rw [Joins.cell_of_block h2]; rfl
  have e2 : (loadVar 44 ⟨g2, 0, none⟩).run Try.prog w' = .ok (.int .i64 ev) w' := by simp [go_sem, e0]
  simp [results, Try.results96, asAddr, ht, ht3, e1, e2]
theorem parse_fails {b : By} {w wk : World} {g1 g2 : Nat} {tm : Array Value} (ht : tm[2]?.getD undef = .pointer (some ⟨g1, 0, none⟩)) (ht3 : tm[3]?.getD undef = .pointer (some ⟨g2, 0, none⟩)) (h1 : wk.heap[g1]? = some (.cells zeroC 83 (0, 0))) (h2 : wk.heap[g2]? = some (.cells #[.int .i64 0] 44 (0, 0))) (n1 : w.heap.size ≤ g1) (n12 : g1 < g2) (hP : parseF b = none) (hb : Below w.heap.size w wk) :
    Leaves Try.prog Try.f96 tm (PR b w) [dfr g1 g2] (.panicking [{ v := .iface 44 (.int .i64 180), recovered := false }]) wk := by
  refine leaves_cons (f := 107) (args := #[.pointer (some ⟨g1, 0, none⟩), .pointer (some ⟨g2, 0, none⟩)]) (by simp) (by simp [dfr, go_sem]) ?_
  refine (catch_bad g1 g2 wk h1 h2 (by omega)).mono ?_
  rintro e u' w'' ⟨rfl, rfl, z1, z2, hb2⟩
  exact ⟨_, parse_out g1 g2 zeroC 180 w'' tm ht ht3 z1 (by kernel_rfl) z2, .inr ⟨hP, rfl, hb.trans (hb2 _ n1 (by omega))⟩⟩
theorem parse_idle {b : By} {w wk : World} {g1 g2 : Nat} {tm : Array Value} {XC : Array Value} {ev : Int} (ht : tm[2]?.getD undef = .pointer (some ⟨g1, 0, none⟩)) (ht3 : tm[3]?.getD undef = .pointer (some ⟨g2, 0, none⟩)) (h1 : wk.heap[g1]? = some (.cells XC 83 (0, 0))) (hx : (Try.prog.info? 83).map (·.size) = some XC.size) (h2 : wk.heap[g2]? = some (.cells #[.int .i64 ev] 44 (0, 0))) (hR : PR b w (.returned (.tuple #[.agg XC, .int .i64 ev])) wk) :
    Leaves Try.prog Try.f96 tm (PR b w) [dfr g1 g2] .returning wk := by
  refine leaves_cons (f := 107) (args := #[.pointer (some ⟨g1, 0, none⟩), .pointer (some ⟨g2, 0, none⟩)]) (by simp) (by simp [dfr, go_sem]) ?_
  refine (catch_idle g1 g2 wk).mono ?_
  rintro e u' w'' ⟨rfl, rfl, rfl⟩
  exact ⟨_, parse_out g1 g2 XC ev w'' tm ht ht3 h1 hx h2, hR⟩
theorem parse_failsPS {b : By} {w wk w' : World} {g1 g2 g3 g4 : Nat} {XC : Array Value} {l : By} {tm : Array Value} (h : PS w wk g1 g2 g3 g4 XC l) (hb : Bes g3 wk w') (ht : tm[2]?.getD undef = .pointer (some ⟨g1, 0, none⟩)) (ht3 : tm[3]?.getD undef = .pointer (some ⟨g2, 0, none⟩)) (hP : parseF b = none) :
    Leaves Try.prog Try.f96 tm (PR b w) [dfr g1 g2] (.panicking [{ v := .iface 44 (.int .i64 180), recovered := false }]) w' := by
  have a1 := h.n12; have a2 := h.n23; have a0 := h.n1
  exact parse_fails ht ht3 ((hb.block g1 (Array.getElem?_eq_some_iff.1 h.h1).1 (by omega)).trans h.h1) ((hb.block g2 (Array.getElem?_eq_some_iff.1 h.h2).1 (by omega)).trans h.h2) h.n1 h.n12 hP (h.rd.1.trans (hb.to_below (by omega) h.rd.1.size))
theorem OwnB.bes {w w' : World} {B g : Nat} {v : Value} {l : By} (h : OwnB w B v l) (hg : g < B) (hb : Bes g w w') : OwnB w' B v l := by
  refine ⟨h.1, ?_⟩
  rcases h.2 with hn | ⟨k, cap, cur, e, hb1, hk, rest⟩
  · exact .inl hn
  · exact .inr ⟨k, cap, cur, e, hb1, (hb.block k (Array.getElem?_eq_some_iff.1 hk).1 (by omega)).trans hk, rest⟩
/-- The frame that has been read. -/
def frP (x0 : BitVec 8) (ep : Nat) (me you : BitVec 64) (nn : Nat) (bd : By) (al : Nat) (more : BitVec 64) : Fr := ⟨(x0.toNat : Int), ep, me, you, nn, bd, al, more⟩
theorem tk_le {n : Nat} {l : By} {r : By × By} (h : tk n l = some r) : r.1.length ≤ l.length ∧ r.2.length ≤ l.length := by
  unfold tk at h
  split at h
  · obtain rfl := Option.some.inj h
    simp only [List.length_take, List.length_drop]
    omega
  · cases h
theorem vr_le {l : By} {r : Nat × By} (h : vr l = some r) : r.2.length ≤ l.length := by
  unfold vr at h
  split at h
  · obtain rfl := Option.some.inj h
    simp only [List.length_drop]
    omega
  · cases h
theorem nr_le {l : By} {r : Nat × By} (h : nr l = some r) : r.2.length ≤ l.length := by
  unfold nr at h
  obtain ⟨s, h1, h2⟩ := Option.bind_eq_some_iff.1 h
  split at h2
  · obtain rfl := Option.some.inj h2
    exact vr_le h1
  · cases h2
theorem wr8_le {l : By} {r : BitVec 64 × By} (h : wr8 l = some r) : r.2.length ≤ l.length := by
  unfold wr8 at h
  obtain ⟨s, h1, h2⟩ := Option.bind_eq_some_iff.1 h
  obtain rfl := Option.some.inj h2
  exact (tk_le h1).2
theorem fin_world {w : World} {g1 g2 : Nat} {FC : Array Value} {ev : Int} (h1 : w.heap[g1]? = some (.cells zeroC 83 (0, 0))) (h2 : w.heap[g2]? = some (.cells #[.int .i64 0] 44 (0, 0))) (hne : g1 ≠ g2) :
    ((w.setRow g1 FC).setCell ⟨g2, 0, none⟩ (.int .i64 ev)).heap[g1]? = some (.cells FC 83 (0, 0)) ∧ ((w.setRow g1 FC).setCell ⟨g2, 0, none⟩ (.int .i64 ev)).heap[g2]? = some (.cells #[.int .i64 ev] 44 (0, 0)) ∧ (w.setRow g1 FC).cell? ⟨g2, 0, none⟩ = some (.int .i64 0) ∧ (w.setRow g1 FC).frozen? ⟨g2, 0, none⟩ = false ∧ (∀ B v l, OwnB w B v l → g1 < B → g2 < B → OwnB ((w.setRow g1 FC).setCell ⟨g2, 0, none⟩ (.int .i64 ev)) B v l) ∧ (∀ B, B ≤ g1 → B ≤ g2 → Below B w ((w.setRow g1 FC).setCell ⟨g2, 0, none⟩ (.int .i64 ev))) := by
  have e1 := setRow_heap w g1 _ FC 83 _ h1
  have e2 : (w.setRow g1 FC).heap[g2]? = some (.cells #[.int .i64 0] 44 (0, 0)) := (setRow_other w g1 g2 _ (Ne.symm hne)).trans h2
  have b1 : Bes g1 w (w.setRow g1 FC) := (Bes.refl g1 w).setRow FC
  have b2 : Bes g2 (w.setRow g1 FC) ((w.setRow g1 FC).setCell ⟨g2, 0, none⟩ (.int .i64 ev)) := (Bes.refl g2 _).setCell 0 _
  have l1 := (Array.getElem?_eq_some_iff.1 h1).1
  have l2 := (Array.getElem?_eq_some_iff.1 h2).1
  refine ⟨(b2.block g1 (Array.getElem?_eq_some_iff.1 e1).1 hne).trans e1, ?_, by rw [Joins.cell_of_block e2]; rfl, fr_of e2 0, fun B v l ho a1 a2 => (ho.bes a1 b1).bes a2 b2, fun B a1 a2 => (b1.to_below a1 (by omega)).trans (b2.to_below a2 (Nat.le_trans (by omega) b1.size))⟩
  rw [setCell_eq_setRow _ g2 0 _ 44 (0, 0) _ e2]
  exact setRow_heap _ g2 _ _ 44 _ e2
def pdPA (w : World) (g1 g2 g3 g4 : Nat) (XC : Array Value) (l7 : By) : Nat → Value → World → Prop
  | 0 => fun v _ => v = .pointer (some ⟨g3, 0, none⟩)
  | 1 => fun v _ => v = .pointer (some ⟨g3, 0, none⟩)
  | 2 => fun v _ => v = .pointer (some ⟨g3, 0, none⟩)
  | 3 => fun v _ => v = .pointer (some ⟨g3, 0, none⟩)
  | 4 => fun v w' => ∃ r, vr l7 = some r ∧ r.1 < 18446744073709551616 ∧ v = .int .u64 (r.1 : Int) ∧ PS w w' g1 g2 g3 g4 XC r.2
  | 5 => fun v w' => ∃ r s, vr l7 = some r ∧ tk r.1 r.2 = some s ∧ EqN w s.1 v ∧ PS w w' g1 g2 g3 g4 XC s.2
  | _ => fun _ _ => True
set_option maxRecDepth 100000 in
theorem field136 (g : Nat) (w : World) : (Instr.fieldAt 136 (.pointer (some ⟨g, 0, none⟩)) 0).run Try.prog w = .ok (.pointer (some ⟨g, 0, none⟩)) w := by
  simp [go_sem, Instr.fieldAt]
set_option maxRecDepth 100000 in
set_option maxHeartbeats 8000000 in
theorem parse_any (b : By) (bv : Value) (w : World) (hb : EqN w b bv) (hbl : b.length ≤ 1000000) : Calls Try.prog 96 #[bv] w (PR b w) := by
  have hmf := make107
  have HB := Lib.hid hb
  obtain ⟨A, n, c, hbv⟩ := hb.form
  subst hbv
  clear hb
  go_enter_defers Try.func96, Try.ntmps96
  go_upto_region 3 with (fail)
  have hz : zeroC = #[.int .i64 0, .int .i64 0, .int .u64 0, .int .u64 0, .int .i64 0, .slice none 0 0, .int .i64 0, .int .u64 0] := rfl
  rw [← hz]
  have a1 := keepH (below_alloc1 _ (.cells #[.slice A n c] 136)) (keepH (below_alloc1 _ (.cells #[.int .i64 0] 44)) (heap_new w (.cells zeroC 83) w.heap.size rfl))
  have a2 := keepH (below_alloc1 _ (.cells #[.slice A n c] 136)) (heap_new (w.alloc (.cells zeroC 83)) (.cells #[.int .i64 0] 44) (w.heap.size + 1) (size_alloc _ _).symm)
  have a3 := heap_new ((w.alloc (.cells zeroC 83)).alloc (.cells #[.int .i64 0] 44)) (.cells #[.slice A n c] 136) (w.heap.size + 1 + 1) (by rw [size_alloc, size_alloc])
  have b3 : Below w.heap.size w (((w.alloc (.cells zeroC 83)).alloc (.cells #[.int .i64 0] 44)).alloc (.cells #[.slice A n c] 136)) := (((Below.refl _ _).alloc (Nat.le_refl _) _).alloc (by rw [size_alloc]; omega) _).alloc (by rw [size_alloc, size_alloc]; omega) _
  obtain ⟨W3, hW3⟩ : ∃ W, ((w.alloc (.cells zeroC 83)).alloc (.cells #[.int .i64 0] 44)).alloc (.cells #[.slice A n c] 136) = W := ⟨_, rfl⟩
  rw [hW3] at a1 a2 a3 b3 ⊢
  have hrd : RdrAt w W3 (w.heap.size + 1 + 1) b := ⟨b3, by omega, _, a3, HB.out⟩
  obtain ⟨g1, hg1⟩ : ∃ g, w.heap.size = g := ⟨_, rfl⟩
  rw [hg1] at a1 a2 hrd ⊢
  obtain ⟨g2, hg2⟩ : ∃ g, g1 + 1 = g := ⟨_, rfl⟩
  rw [hg2] at a2 hrd ⊢
  obtain ⟨g3, hg3⟩ : ∃ g, g2 + 1 = g := ⟨_, rfl⟩
  rw [hg3] at hrd ⊢
  have HRD := Lib.hid hrd
  have A1 := Lib.hid a1
  have A2 := Lib.hid a2
  have N1 := Lib.hid (show w.heap.size ≤ g1 by omega)
  have N12 := Lib.hid (show g1 < g2 by omega)
  have N23 := Lib.hid (show g2 < g3 by omega)
  have HD := Lib.hid (show dfr g1 g2 = { target := .fn (.func 107) #[.pointer (some ⟨g1, 0, none⟩), .pointer (some ⟨g2, 0, none⟩)], args := #[] } from rfl)
  have HBL := Lib.hid hbl
  clear hz a1 a2 a3 b3 hW3 hrd hg1 hg2 hg3 hbl
  go_wp2_with fail
  refine (ftake_any w g3 b 1 W3 HRD.out (by decide)).mono ?_
  rintro e w4 (⟨⟨p0, l0⟩, ht0, u0, rfl, hu0, hrd4, hbes4⟩ | ⟨ht0, rfl, hbes4⟩)
  rotate_left
  · have h1 := (hbes4.block g1 (Array.getElem?_eq_some_iff.1 A1.out).1 (by have := N12.out; have := N23.out; omega)).trans A1.out
    have h2 := (hbes4.block g2 (Array.getElem?_eq_some_iff.1 A2.out).1 (by have := N23.out; omega)).trans A2.out
    have hP : parseF b = none := by unfold parseF; rw [ht0]; rfl
    have hB := HRD.out.1.trans (hbes4.to_below HRD.out.2.1 HRD.out.1.size)
    have HF := Lib.hid (And.intro h1 (And.intro h2 (And.intro hP hB)))
    clear h1 h2 hP hB ht0 hbes4
    unfold badF
    go_wp2
    exact parse_fails rfl rfl HF.out.1 HF.out.2.1 N1.out N12.out HF.out.2.2.1 HF.out.2.2.2
  simp only at hrd4
  have T0 := Lib.hid ht0
  have hz4 : zeroC = #[.int .i64 0, .int .i64 0, .int .u64 0, .int .u64 0, .int .i64 0, .slice none 0 0, .int .i64 0, .int .u64 0] := rfl
  have hps : PS w (w4.alloc (.cells zeroC 83)) g1 g2 g3 w4.heap.size zeroC l0 := by
    have n1 := N12.out; have n2 := N23.out
    have h3 := Array.getElem?_eq_some_iff.1 hrd4.2.2.choose_spec.1
    obtain ⟨r1, r2, sv, r3, r4⟩ := hrd4
    have hlt := (Array.getElem?_eq_some_iff.1 r3).1
    exact ⟨⟨r1.alloc r1.size _, r2, sv, keepH (below_alloc1 _ _) r3, r4⟩, keepH (below_alloc1 _ _) ((hbes4.block g1 (Array.getElem?_eq_some_iff.1 A1.out).1 (by omega)).trans A1.out), keepH (below_alloc1 _ _) ((hbes4.block g2 (Array.getElem?_eq_some_iff.1 A2.out).1 (by omega)).trans A2.out), heap_new _ _ _ rfl, N1.out, n1, n2, hlt⟩
  have HZ4 := Lib.hid hz4
  have HPS0 := Lib.hid hps
  clear ht0 hu0 hrd4 hbes4 hps hz4 HRD A1 A2
  go_upto_region 5 with (fail)
  rw [← HZ4.out]
  obtain ⟨W5, hW5⟩ : ∃ W, w4.alloc (.cells zeroC 83) = W := ⟨_, rfl⟩
  obtain ⟨g4, hg4⟩ : ∃ g, w4.heap.size = g := ⟨_, rfl⟩
  rw [hW5, hg4] at HPS0
  rw [hW5, hg4]
  clear hW5 hg4
  go_wp2_with fail
  refine (ftake_any w g3 l0 1 W5 HPS0.out.rd (by decide)).mono ?_
  rintro e w6 (⟨⟨p1, l1⟩, ht, u1, rfl, hu1, hrd, hbes⟩ | ⟨ht, rfl, hbes⟩)
  rotate_left
  · have hP : parseF b = none := by unfold parseF; simp only [T0.out, ht, Option.bind_some, Option.bind_none]
    have HF := Lib.hid (And.intro hP hbes)
    clear hP ht hbes
    unfold badF
    go_wp2
    exact parse_failsPS HPS0.out HF.out.2 rfl rfl HF.out.1
  simp only at hu1 hrd
  have hp1 : p1.length = 1 := by
    unfold tk at ht
    split at ht
    · obtain ⟨rfl, _⟩ := Prod.mk.inj (Option.some.inj ht)
      rw [List.length_take]; omega
    · cases ht
  have T1 := Lib.hid ht
  have HP6 := Lib.hid (HPS0.out.bes hrd hbes)
  obtain ⟨x0, hx0⟩ : ∃ x0, p1 = [x0] := by
    match p1, hp1 with
    | [x], _ => exact ⟨x, rfl⟩
  subst hx0
  obtain ⟨A1, c1, rfl, hc1, hr1, _⟩ := hu1.below HP6.out.rd.1
  obtain ⟨ad, rfl, hcell⟩ := hr1.at' 0 (by simp)
  have hcell2 : w6.cell? ad = some (.int .u8 (x0.toNat : Int)) := by rw [show ad = ad.add 0 by unfold Addr.add; split <;> simp_all]; exact hcell
  have hc := HP6.out.cell 0 (.int .i64 0) rfl
  have hf := HP6.out.fr 0
  have hx8 := x0.isLt
  clear ht hrd hbes hu1 hr1 hc1 HPS0 hp1 hcell
  go_upto_region 6 with (fail)
  obtain ⟨W6, hW6⟩ : ∃ W, w6.setCell ⟨g4, 0, none⟩ (.int .i64 (x0.toNat : Int)) = W := ⟨_, rfl⟩
  have HPS1 := Lib.hid (show PS w W6 g1 g2 g3 g4 (zeroC.setIfInBounds 0 (.int .i64 (x0.toNat : Int))) l1 by rw [← hW6]; exact HP6.out.store 0 _)
  rw [hW6]
  clear hW6 hc hf hcell2 HP6
  go_wp2_with fail
  refine (fnumber_any w g3 l1 W6 HPS1.out.rd).mono ?_
  rintro e w7 (⟨⟨ep, l2⟩, ht, hx, rfl, hrd, hbes⟩ | ⟨ht, rfl, hbes⟩)
  rotate_left
  · have hP : parseF b = none := by unfold parseF; simp only [T0.out, T1.out, ht, Option.bind_some, Option.bind_none]
    have HF := Lib.hid (And.intro hP hbes)
    clear hP ht hbes
    unfold badF
    go_wp2
    exact parse_failsPS HPS1.out HF.out.2 rfl rfl HF.out.1
  simp only at hrd hx ⊢
  have HX1 := Lib.hid hx
  have hx3 : (ep : Int) ≤ 1073741824 := by omega
  have T2 := Lib.hid ht
  have HQ1 := Lib.hid (HPS1.out.bes hrd hbes)
  have hc := HQ1.out.cell 1 (.int .i64 0) rfl
  have hf := HQ1.out.fr 1
  clear ht hrd hbes HPS1 hx
  go_upto_region 7 with (fail)
  obtain ⟨W7, hW⟩ : ∃ W, w7.setCell ⟨g4, 1, none⟩ (.int .i64 (ep : Int)) = W := ⟨_, rfl⟩
  have HPS2 := Lib.hid (show PS w W7 g1 g2 g3 g4 ((zeroC.setIfInBounds 0 (.int .i64 (x0.toNat : Int))).setIfInBounds 1 (.int .i64 (ep : Int))) l2 by rw [← hW]; exact HQ1.out.store 1 _)
  rw [hW]
  clear hW hc hf HQ1 hx3
  go_wp2_with fail
  refine (feight_any w g3 l2 W7 HPS2.out.rd).mono ?_
  rintro e w8 (⟨⟨me, l3⟩, ht, rfl, hrd, hbes⟩ | ⟨ht, rfl, hbes⟩)
  rotate_left
  · have hP : parseF b = none := by unfold parseF; simp only [T0.out, T1.out, T2.out, ht, Option.bind_some, Option.bind_none]
    have HF := Lib.hid (And.intro hP hbes)
    clear hP ht hbes
    unfold badF
    go_wp2
    exact parse_failsPS HPS2.out HF.out.2 rfl rfl HF.out.1
  simp only at hrd ⊢
  have T3 := Lib.hid ht
  have HQ2 := Lib.hid (HPS2.out.bes hrd hbes)
  have hc := HQ2.out.cell 2 (.int .u64 0) rfl
  have hf := HQ2.out.fr 2
  clear ht hrd hbes HPS2
  go_upto_region 8 with (fail)
  obtain ⟨W8, hW⟩ : ∃ W, w8.setCell ⟨g4, 2, none⟩ (.int .u64 (me.toNat : Int)) = W := ⟨_, rfl⟩
  have HPS3 := Lib.hid (show PS w W8 g1 g2 g3 g4 (((zeroC.setIfInBounds 0 (.int .i64 (x0.toNat : Int))).setIfInBounds 1 (.int .i64 (ep : Int))).setIfInBounds 2 (.int .u64 (me.toNat : Int))) l3 by rw [← hW]; exact HQ2.out.store 2 _)
  rw [hW]
  clear hW hc hf HQ2
  go_wp2_with fail
  refine (feight_any w g3 l3 W8 HPS3.out.rd).mono ?_
  rintro e w9 (⟨⟨you, l4⟩, ht, rfl, hrd, hbes⟩ | ⟨ht, rfl, hbes⟩)
  rotate_left
  · have hP : parseF b = none := by unfold parseF; simp only [T0.out, T1.out, T2.out, T3.out, ht, Option.bind_some, Option.bind_none]
    have HF := Lib.hid (And.intro hP hbes)
    clear hP ht hbes
    unfold badF
    go_wp2
    exact parse_failsPS HPS3.out HF.out.2 rfl rfl HF.out.1
  simp only at hrd ⊢
  have T4 := Lib.hid ht
  have HQ3 := Lib.hid (HPS3.out.bes hrd hbes)
  have hc := HQ3.out.cell 3 (.int .u64 0) rfl
  have hf := HQ3.out.fr 3
  clear ht hrd hbes HPS3
  go_upto_region 9 with (fail)
  obtain ⟨W9, hW⟩ : ∃ W, w9.setCell ⟨g4, 3, none⟩ (.int .u64 (you.toNat : Int)) = W := ⟨_, rfl⟩
  have HPS4 := Lib.hid (show PS w W9 g1 g2 g3 g4 ((((zeroC.setIfInBounds 0 (.int .i64 (x0.toNat : Int))).setIfInBounds 1 (.int .i64 (ep : Int))).setIfInBounds 2 (.int .u64 (me.toNat : Int))).setIfInBounds 3 (.int .u64 (you.toNat : Int))) l4 by rw [← hW]; exact HQ3.out.store 3 _)
  rw [hW]
  clear hW hc hf HQ3
  go_wp2_with fail
  refine (fnumber_any w g3 l4 W9 HPS4.out.rd).mono ?_
  rintro e w10 (⟨⟨nn, l5⟩, ht, hx, rfl, hrd, hbes⟩ | ⟨ht, rfl, hbes⟩)
  rotate_left
  · have hP : parseF b = none := by unfold parseF; simp only [T0.out, T1.out, T2.out, T3.out, T4.out, ht, Option.bind_some, Option.bind_none]
    have HF := Lib.hid (And.intro hP hbes)
    clear hP ht hbes
    unfold badF
    go_wp2
    exact parse_failsPS HPS4.out HF.out.2 rfl rfl HF.out.1
  simp only at hrd hx ⊢
  have HX4 := Lib.hid hx
  have hx3 : (nn : Int) ≤ 1073741824 := by omega
  have T5 := Lib.hid ht
  have HQ4 := Lib.hid (HPS4.out.bes hrd hbes)
  have hc := HQ4.out.cell 4 (.int .i64 0) rfl
  have hf := HQ4.out.fr 4
  clear ht hrd hbes HPS4 hx
  go_upto_region 10 with (fail)
  obtain ⟨W10, hW⟩ : ∃ W, w10.setCell ⟨g4, 4, none⟩ (.int .i64 (nn : Int)) = W := ⟨_, rfl⟩
  have HPS5 := Lib.hid (show PS w W10 g1 g2 g3 g4 (((((zeroC.setIfInBounds 0 (.int .i64 (x0.toNat : Int))).setIfInBounds 1 (.int .i64 (ep : Int))).setIfInBounds 2 (.int .u64 (me.toNat : Int))).setIfInBounds 3 (.int .u64 (you.toNat : Int))).setIfInBounds 4 (.int .i64 (nn : Int))) l5 by rw [← hW]; exact HQ4.out.store 4 _)
  rw [hW]
  clear hW hc hf HQ4 hx3
  go_wp2_with fail
  refine (fnumber_any w g3 l5 W10 HPS5.out.rd).mono ?_
  rintro e w11 (⟨⟨al, l6⟩, ht, hx, rfl, hrd, hbes⟩ | ⟨ht, rfl, hbes⟩)
  rotate_left
  · have hP : parseF b = none := by unfold parseF; simp only [T0.out, T1.out, T2.out, T3.out, T4.out, T5.out, ht, Option.bind_some, Option.bind_none]
    have HF := Lib.hid (And.intro hP hbes)
    clear hP ht hbes
    unfold badF
    go_wp2
    exact parse_failsPS HPS5.out HF.out.2 rfl rfl HF.out.1
  simp only at hrd hx ⊢
  have HX5 := Lib.hid hx
  have hx3 : (al : Int) ≤ 1073741824 := by omega
  have T6 := Lib.hid ht
  have HQ5 := Lib.hid (HPS5.out.bes hrd hbes)
  have hc := HQ5.out.cell 6 (.int .i64 0) rfl
  have hf := HQ5.out.fr 6
  clear ht hrd hbes HPS5 hx
  go_upto_region 11 with (fail)
  obtain ⟨W11, hW⟩ : ∃ W, w11.setCell ⟨g4, 6, none⟩ (.int .i64 (al : Int)) = W := ⟨_, rfl⟩
  have HPS6 := Lib.hid (show PS w W11 g1 g2 g3 g4 ((((((zeroC.setIfInBounds 0 (.int .i64 (x0.toNat : Int))).setIfInBounds 1 (.int .i64 (ep : Int))).setIfInBounds 2 (.int .u64 (me.toNat : Int))).setIfInBounds 3 (.int .u64 (you.toNat : Int))).setIfInBounds 4 (.int .i64 (nn : Int))).setIfInBounds 6 (.int .i64 (al : Int))) l6 by rw [← hW]; exact HQ5.out.store 6 _)
  rw [hW]
  clear hW hc hf HQ5 hx3
  go_wp2_with fail
  refine (feight_any w g3 l6 W11 HPS6.out.rd).mono ?_
  rintro e w12 (⟨⟨more, l7⟩, ht, rfl, hrd, hbes⟩ | ⟨ht, rfl, hbes⟩)
  rotate_left
  · have hP : parseF b = none := by unfold parseF; simp only [T0.out, T1.out, T2.out, T3.out, T4.out, T5.out, T6.out, ht, Option.bind_some, Option.bind_none]
    have HF := Lib.hid (And.intro hP hbes)
    clear hP ht hbes
    unfold badF
    go_wp2
    exact parse_failsPS HPS6.out HF.out.2 rfl rfl HF.out.1
  simp only at hrd ⊢
  have T7 := Lib.hid ht
  have HQ6 := Lib.hid (HPS6.out.bes hrd hbes)
  have hc := HQ6.out.cell 7 (.int .u64 0) rfl
  have hf := HQ6.out.fr 7
  clear ht hrd hbes HPS6
  go_upto_region 12 with (fail)
  obtain ⟨W12, hW⟩ : ∃ W, w12.setCell ⟨g4, 7, none⟩ (.int .u64 (more.toNat : Int)) = W := ⟨_, rfl⟩
  have HPS7 := Lib.hid (show PS w W12 g1 g2 g3 g4 (((((((zeroC.setIfInBounds 0 (.int .i64 (x0.toNat : Int))).setIfInBounds 1 (.int .i64 (ep : Int))).setIfInBounds 2 (.int .u64 (me.toNat : Int))).setIfInBounds 3 (.int .u64 (you.toNat : Int))).setIfInBounds 4 (.int .i64 (nn : Int))).setIfInBounds 6 (.int .i64 (al : Int))).setIfInBounds 7 (.int .u64 (more.toNat : Int))) l7 by rw [← hW]; exact HQ6.out.store 7 _)
  rw [hW]
  clear hW hc hf HQ6
  obtain ⟨XC, hXC⟩ : ∃ X, (((((((zeroC.setIfInBounds 0 (.int .i64 (x0.toNat : Int))).setIfInBounds 1 (.int .i64 (ep : Int))).setIfInBounds 2 (.int .u64 (me.toNat : Int))).setIfInBounds 3 (.int .u64 (you.toNat : Int))).setIfInBounds 4 (.int .i64 (nn : Int))).setIfInBounds 6 (.int .i64 (al : Int))).setIfInBounds 7 (.int .u64 (more.toNat : Int))) = X := ⟨_, rfl⟩
  have HXC := Lib.hid hXC
  rw [hXC] at HPS7
  clear hXC
  refine wp_region_door (w0 := _) 6 [some 42, some 43, some 44, some 45, some 46, some 47] (by kernel_rfl) (by kernel_rfl) (by kernel_rfl) (by kernel_rfl) (of_decide_eq_true (by kernel_rfl)) (by kernel_rfl) (fun Lc w' => Lc 4 = false → PS w w' g1 g2 g3 g4 XC l7) (fun _ => HPS7.out.low (Below.refl _ _).drew) (pdPA w g1 g2 g3 g4 XC l7) (fun i k => i == 5 && k == 4) (by kernel_rfl) ?_ ?_
  · intro ix hix o w1 b9 Lc ho hL hneed hbel hv hstood hsize hdef K hK0
    have hK : ix ≠ 4 → ix ≠ 5 → ∀ u, pdPA w g1 g2 g3 g4 XC l7 ix u w1 → K (b9.put o.dst u) w1 := fun hx hx5 u h => hK0 u w1 h (fun k v _ _ _ h2 => h2) (fun h4 => by rw [upd_other Lc true (Ne.symm hx)] at h4; exact hbel h4)
    have ht2 : b9.tmps[2]?.getD undef = .pointer (some ⟨g1, 0, none⟩) := by have h := (hstood 2 (by kernel_rfl)).trans rfl; simpa [Act.eval] using h
    have ht3 : b9.tmps[3]?.getD undef = .pointer (some ⟨g2, 0, none⟩) := by have h := (hstood 3 (by kernel_rfl)).trans rfl; simpa [Act.eval] using h
    have ht4 : b9.eval (.tmp 4) = .pointer (some ⟨g3, 0, none⟩) := (hstood 4 (by kernel_rfl)).trans rfl
    have hc : ix = 0 ∨ ix = 1 ∨ ix = 2 ∨ ix = 3 ∨ ix = 4 ∨ ix = 5 := by omega
    rcases hc with rfl | rfl | rfl | rfl | rfl | rfl
    · obtain rfl : (⟨some 42, .move (.tmp 4), _, _, _, _⟩ : Oper) = o := Option.some.inj ho
      refine ask_plain rfl ?_
      exact wp_val _ rfl (hK (by decide) (by decide) _ ht4)
    · obtain rfl : (⟨some 43, .nilCheck (.tmp 42), _, _, _, _⟩ : Oper) = o := Option.some.inj ho
      refine ask_plain rfl ?_
      have e : b9.eval (.tmp 42) = .pointer (some ⟨g3, 0, none⟩) := hv 0 42 (by kernel_rfl) (by kernel_rfl) (of_decide_eq_true (by kernel_rfl))
      exact wp_val _ (by simp only [execOp, e]; rfl) (hK (by decide) (by decide) _ rfl)
    · obtain rfl : (⟨some 44, .fieldAddr 136 (.tmp 43) 0, _, _, _, _⟩ : Oper) = o := Option.some.inj ho
      refine ask_plain rfl ?_
      have e : b9.eval (.tmp 43) = .pointer (some ⟨g3, 0, none⟩) := hv 1 43 (by kernel_rfl) (by kernel_rfl) (of_decide_eq_true (by kernel_rfl))
      exact wp_val (.pointer (some ⟨g3, 0, none⟩)) (by simp only [execOp, e, Sem.run_bind, field136 g3, Result.andThen]; rfl) (hK (by decide) (by decide) _ rfl)
    · obtain rfl : (⟨some 45, .move (.tmp 4), _, _, _, _⟩ : Oper) = o := Option.some.inj ho
      refine ask_plain rfl ?_
      exact wp_val _ rfl (hK (by decide) (by decide) _ ht4)
    · obtain rfl : (⟨some 46, .call { callee := .value (.func 111), args := #[.tmp 45], argTypes := #[132] }, _, _, _, _⟩ : Oper) = o := Option.some.inj ho
      refine ask_plain rfl ?_
      have e : b9.eval (.tmp 45) = .pointer (some ⟨g3, 0, none⟩) := hv 3 45 (by kernel_rfl) (by kernel_rfl) (of_decide_eq_true (by kernel_rfl))
      have hps := hbel hL
      refine wp_call_fnP 111 #[.tmp 45] #[132] rfl Try.f111 _ Try.func111 (by kernel_rfl) rfl #[.pointer (some ⟨g3, 0, none⟩)] (by simp [e]) ((fvarint_any w g3 l7 w1 hps.rd).mono ?_)
      rintro e w2 (⟨r, hr, hr2, rfl, hrd, hbes⟩ | ⟨hr, rfl, hbes⟩)
      · refine .inl ⟨_, rfl, hK0 _ _ ⟨r, hr, hr2, rfl, hps.bes hrd hbes⟩ (fun k v hk hnd hgo h => ?_) (fun h => by rw [upd_same] at h; cases h)⟩
        match k, h with
        | 0, h => exact h
        | 1, h => exact h
        | 2, h => exact h
        | 3, h => exact h
        | 4, h => exact absurd rfl hk
        | 5, h => exact Bool.noConfusion ((show needsB _ 5 4 = true by kernel_rfl).symm.trans hnd)
        | _ + 6, _ => trivial
      · refine .inr ⟨_, rfl, ?_⟩
        have hP : parseF b = none := by unfold parseF; simp only [T0.out, T1.out, T2.out, T3.out, T4.out, T5.out, T6.out, T7.out, hr, Option.bind_some, Option.bind_none]
        show Leaves Try.prog Try.f96 b9.tmps (PR b w) b9.defers (.panicking _) w2
        rw [hdef]
        exact parse_failsPS hps hbes ht2 ht3 hP
    · obtain rfl : (⟨some 47, .call { callee := .value (.func 108), args := #[.tmp 44, .tmp 46], argTypes := #[134, 33] }, _, _, _, _⟩ : Oper) = o := Option.some.inj ho
      refine ask_plain rfl ?_
      have e : b9.eval (.tmp 44) = .pointer (some ⟨g3, 0, none⟩) := hv 2 44 (by kernel_rfl) (by kernel_rfl) (of_decide_eq_true (by kernel_rfl))
      obtain ⟨r, hr, hr2, e2, hps⟩ : ∃ r, vr l7 = some r ∧ r.1 < 18446744073709551616 ∧ b9.eval (.tmp 46) = .int .u64 (r.1 : Int) ∧ PS w w1 g1 g2 g3 g4 XC r.2 := hv 4 46 (by kernel_rfl) (by kernel_rfl) (of_decide_eq_true (by kernel_rfl))
      refine wp_call_fnP 108 #[.tmp 44, .tmp 46] #[134, 33] rfl Try.f108 _ Try.func108 (by kernel_rfl) rfl #[.pointer (some ⟨g3, 0, none⟩), .int .u64 (r.1 : Int)] (by simp [e, e2]) ((ftake_any w g3 r.2 r.1 w1 hps.rd hr2).mono ?_)
      rintro e w2 (⟨s, hs, u, rfl, hu, hrd, hbes⟩ | ⟨hs, rfl, hbes⟩)
      · have h4 : Lc 4 = true := hneed 4 (by kernel_rfl)
        refine .inl ⟨_, rfl, hK0 _ _ ⟨r, s, hr, hs, hu, hps.bes hrd hbes⟩ (fun k v hk hnd hgo h => ?_) (fun h => by rw [upd_other Lc true (by decide), h4] at h; cases h)⟩
        match k, h with
        | 0, h => exact h
        | 1, h => exact h
        | 2, h => exact h
        | 3, h => exact h
        | 4, h => cases hgo
        | 5, h => exact absurd rfl hk
        | _ + 6, _ => trivial
      · refine .inr ⟨_, rfl, ?_⟩
        have hP : parseF b = none := by unfold parseF; simp only [T0.out, T1.out, T2.out, T3.out, T4.out, T5.out, T6.out, T7.out, hr, hs, Option.bind_some, Option.bind_none]
        show Leaves Try.prog Try.f96 b9.tmps (PR b w) b9.defers (.panicking _) w2
        rw [hdef]
        exact parse_failsPS hps hbes ht2 ht3 hP
  · intro vs w13 hp _
    obtain ⟨⟨len, l8⟩, ⟨bd, l9⟩, hr, hs, hu, hps⟩ : ∃ r s, vr l7 = some r ∧ tk r.1 r.2 = some s ∧ EqN w s.1 (vs 5) ∧ PS w w13 g1 g2 g3 g4 XC s.2 := hp 5 (by decide) (by decide)
    simp only at hs hu hps
    change wpList _ _ _ [_] _ _
    simp only [putD, Act.put, List.setIfInBounds_toArray, List.set_cons_zero, List.set_cons_succ]
    obtain ⟨r5, hr5⟩ : ∃ r, vs 5 = r := ⟨_, rfl⟩
    rw [hr5] at hu ⊢
    generalize vs 0 = y0, vs 1 = y1, vs 2 = y2, vs 3 = y3, vs 4 = y4
    have T8 := Lib.hid hr
    have T9 := Lib.hid hs
    have HU := Lib.hid hu
    have HP8 := Lib.hid hps
    clear hp hr hs hu hps hr5 HPS7
    obtain ⟨Ab, cb, hr5, hcb, hrb, hnb⟩ := HU.out
    obtain ⟨bn, hbn⟩ : ∃ n, bd.length = n := ⟨_, rfl⟩
    rw [hbn] at hr5 hcb
    subst hr5
    have hbm : bn ≤ 9223372036854775807 := by rw [← hbn]; exact hrb.1
    have HBN := Lib.hid hbn
    have HOE := Lib.hid (show OwnB (w13.alloc (.cells #[] 5)) w13.heap.size (.slice (some ⟨w13.heap.size, 0, none⟩) 0 0) [] from own_empty w13 5 1)
    have HE := Lib.hid ((HU.out.below HP8.out.rd.1).alloc (.cells #[] 5))
    have HT9 := Lib.hid (show bd.length ≤ 1000000 by
      have e0 := (tk_le T0.out).2; have e1 := (tk_le T1.out).2; have e2 := nr_le T2.out; have e3 := wr8_le T3.out; have e4 := wr8_le T4.out; have e5 := nr_le T5.out; have e6 := nr_le T6.out; have e7 := wr8_le T7.out; have e8 := vr_le T8.out; have e9 := (tk_le T9.out).1; have e10 := HBL.out
      simp only at e0 e1 e2 e3 e4 e5 e6 e7 e8 e9
      omega)
    have HG4 := Lib.hid (show g4 < w13.heap.size from (Array.getElem?_eq_some_iff.1 HP8.out.h4).1)
    clear hbn hcb hrb hnb
    go_upto_if 50 with (fail)
    go_cut [6] from 50 to 54 (fun v wx => v = .slice Ab bn cb ∧ ∃ u, PS w wx g1 g2 g3 g4 (XC.setIfInBounds 5 u) l9 ∧ OwnB wx w13.heap.size u bd)
    case first =>
      by_cases h0 : 0 < bn
      · have hdt : decide ((0 : Int) < (bn : Int)) = true := by simp; omega
        have hc := HP8.out.cell 5 (.slice none 0 0) (by rw [← HXC.out]; rfl)
        have hf := HP8.out.fr 5
        go_wp2_with (first | (at_builtin; refine wpList_append_B rfl (.tmp 51) (.tmp 52) rfl w13.heap.size [] bd HOE.out HE.out (by have := HT9.out; simp; omega) (by rw [size_alloc]; omega) ?_; intro v' w14 hown' hb'; have HO14 := Lib.hid hown'; have HB14 := Lib.hid ((below_alloc1 w13 (.cells #[] 5)).trans hb'); have hc' := (HB14.out.cell (World.block_lt_of_cell? _ _ hc)).trans hc; have hf' := (HB14.out.frozen (World.block_lt_of_cell? _ _ hc)).trans hf; obtain ⟨A3, c3, hv3, _, _, _⟩ := HO14.out.eqn; obtain ⟨n3, hn3⟩ : ∃ n, ([] ++ bd : By).length = n := ⟨_, rfl⟩; rw [hn3] at hv3; subst hv3; clear hn3 hown' hb' hc hf) | fail)
        go_meet
        case rel => exact ⟨rfl, _, (HP8.out.low HB14.out).store 5 _, HO14.out.bes HG4.out ((Bes.refl g4 w14).setCell 5 _)⟩
      · have hb0 : bd = [] := List.eq_nil_of_length_eq_zero (by have := HBN.out; omega)
        have HP9 := Lib.hid (show PS w w13 g1 g2 g3 g4 (XC.setIfInBounds 5 (.slice none 0 0)) l9 by
          rw [show XC.setIfInBounds 5 (.slice none 0 0) = XC by rw [← HXC.out]; rfl]
          exact HP8.out)
        have HO9 := Lib.hid (show OwnB w13 w13.heap.size (.slice none 0 0) bd by rw [hb0]; exact ⟨rfl, .inl ⟨rfl, rfl⟩⟩)
        have hdf : decide ((0 : Int) < (bn : Int)) = false := by simp; omega
        clear hb0
        go_wp2
        go_meet
        case rel => exact ⟨rfl, _, HP9.out, HO9.out⟩
    case rest =>
      obtain ⟨rfl, u, hps, hou⟩ := hcut
      obtain ⟨Au, cu, hu, hcu, hru, hnu⟩ := hou.eqn
      subst hu
      have hPn : ¬ (okF (frP x0 ep me you nn bd al more) = true ∧ bodyF (frP x0 ep me you nn bd al more) = b) → parseF b = none := fun h => by
        unfold parseF
        simp only [T0.out, T1.out, T2.out, T3.out, T4.out, T5.out, T6.out, T7.out, T8.out, T9.out, Option.bind_some]
        exact if_neg h
      have hPs : okF (frP x0 ep me you nn bd al more) = true ∧ bodyF (frP x0 ep me you nn bd al more) = b → parseF b = some (frP x0 ep me you nn bd al more) := fun h => by
        unfold parseF
        simp only [T0.out, T1.out, T2.out, T3.out, T4.out, T5.out, T6.out, T7.out, T8.out, T9.out, Option.bind_some]
        exact if_pos h
      have hfc : frV (frP x0 ep me you nn bd al more) (.slice Au bd.length cu) = .agg (XC.setIfInBounds 5 (.slice Au bd.length cu)) := by rw [← HXC.out]; kernel_rfl
      obtain ⟨FC, hFC⟩ : ∃ F, XC.setIfInBounds 5 (.slice Au bd.length cu) = F := ⟨_, rfl⟩
      have hF1 : FC.all (·.oneCell') = true := by rw [← hFC, ← HXC.out]; kernel_rfl
      have hFs : FC.size = 8 := by rw [← hFC, ← HXC.out]; kernel_rfl
      rw [hFC] at hfc hps
      have hbd : (frP x0 ep me you nn bd al more).body = bd := rfl
      have hCK : ∀ w', Calls Try.prog 63 #[.agg FC] w' fun e w'' => e = .returned (.int .i64 (if okF (frP x0 ep me you nn bd al more) = true then 0 else 180)) ∧ Below w'.heap.size w' w'' := fun w' => by
        rw [← hfc]; exact fcheck_any (frP x0 ep me you nn bd al more) Au cu w' hcu
      have hCB : ∀ w', OwnB w' w13.heap.size (.slice Au bd.length cu) bd → okF (frP x0 ep me you nn bd al more) = true → Calls Try.prog 90 #[.agg FC] w' fun e w'' => ∃ v, e = .returned v ∧ OwnB w'' w'.heap.size v (bodyF (frP x0 ep me you nn bd al more)) ∧ Below w'.heap.size w' w'' := fun w' ho hok => by
        rw [← hfc]; exact body_any (frP x0 ep me you nn bd al more) _ w' ho.eqn hok
      obtain ⟨f, hf⟩ : ∃ f, frP x0 ep me you nn bd al more = f := ⟨_, rfl⟩
      rw [hf] at hPn hPs hfc hbd hCK hCB
      have HS83 := Lib.hid (show (Try.prog.info? 83).map (·.size) = some FC.size by rw [hFs]; kernel_rfl)
      have HFC := Lib.hid hfc
      have HF1 := Lib.hid hF1
      have HFS := Lib.hid (show zeroC.size = FC.size by rw [hFs]; rfl)
      have HBD := Lib.hid hbd
      have HPN := Lib.hid hPn
      have HPSS := Lib.hid hPs
      have HCB := Lib.hid hCB
      have HPS := Lib.hid hps
      have HOU := Lib.hid hou
      obtain ⟨nb, hnb⟩ : ∃ n, bd.length = n := ⟨_, rfl⟩
      rw [hnb] at HOU HFC HCB
      have HSZ := Lib.hid (show (Try.prog.info? 83).map (·.size) = some zeroC.size by kernel_rfl)
      have n12 := N12.out
      have HB2 := Lib.hid (HB.out)
      clear hf hPn hPs hfc hbd hCB hF1 hFs hFC hps hou hcu hru hnu hnb T0 T1 T2 T3 T4 T5 T6 T7 T8 T9 HXC HP8 HU HOE HE HT9
      by_cases hok : okF f = true
      · rw [if_pos hok] at hCK
        have CK := Lib.hid hCK
        have HOK := Lib.hid hok
        clear hCK hok
        go_wp2_with (first | ((with_reducible show wpList _ _ _ (⟨some 55, .load 83 (.tmp 5), _, _, _, _⟩ :: _) _ _); refine wpList_load_cells rfl 83 (.tmp 5) rfl ⟨g4, 0, none⟩ rfl FC _ rfl (fun j v hj => by rw [add_zero_off, Joins.cell_of_block HPS.out.h4]; exact hj) Try.underlying83 HS83.out ?_) | fail)
        refine (CK.out wc).mono ?_
        rintro e w15 ⟨rfl, hb15⟩
        have HPS15 := Lib.hid (HPS.out.low hb15)
        have HOU15 := Lib.hid (HOU.out.below hb15)
        clear hb15 CK
        go_wp2_with (first | ((with_reducible show wpList _ _ _ (⟨some 60, .load 83 (.tmp 5), _, _, _, _⟩ :: _) _ _); refine Go.BigFrame.wpList_want (by kernel_rfl) fun K hK => wp_load_cells 83 (.tmp 5) rfl ⟨g4, 0, none⟩ rfl FC _ rfl (fun j v hj => by rw [add_zero_off, Joins.cell_of_block HPS15.out.h4]; exact hj) Try.underlying83 HS83.out (hK _ _ ?_); simp only [Act.put, List.setIfInBounds_toArray, List.set_cons_zero, List.set_cons_succ]; clear hK) | fail)
        refine (HCB.out w15 HOU15.out HOK.out).mono ?_
        rintro e w16 ⟨v16, rfl, hown, hb16⟩
        have HPS16 := Lib.hid (HPS15.out.low hb16)
        have HOU16 := Lib.hid (HOU15.out.below hb16)
        have EQ := Lib.hid (equal95 b (bodyF f) _ v16 w16 (HB2.out.below HPS16.out.rd.1) hown.eqn)
        clear hown hb16 HCB
        by_cases heq : bodyF f = b
        · have hqb : (b == bodyF f) = true := by rw [heq]; simp
          rw [hqb] at EQ
          have HEQ := Lib.hid heq
          clear heq hqb
          have FW := fin_world (FC := FC) (ev := 0) HPS16.out.h1 HPS16.out.h2 (by omega)
          have HFW := Lib.hid FW
          have hq := FW.2.2.1
          have hf2 := FW.2.2.2.1
          clear FW
          have HZ0 := Lib.hid HPS16.out.h1
          go_wp2_with (first | (go_at_call 95; refine EQ.out.mono ?_; rintro e w17 ⟨rfl, rfl⟩) | ((with_reducible show wpList _ _ _ (⟨some 66, .load 83 (.tmp 5), _, _, _, _⟩ :: _) _ _); refine wpList_load_cells rfl 83 (.tmp 5) rfl ⟨g4, 0, none⟩ rfl FC _ rfl (fun j v hj => by rw [add_zero_off, Joins.cell_of_block HPS16.out.h4]; exact hj) Try.underlying83 HS83.out ?_) | ((with_reducible show wpList _ _ _ (⟨none, .store 83 (.tmp 2) (.tmp 66), _, _, _, _⟩ :: _) _ _); refine wpList_store_row rfl 83 (.tmp 2) (.tmp 66) rfl g1 FC rfl rfl 83 _ HZ0.out HS83.out HFS.out HF1.out ?_) | fail)
          refine parse_idle (by rfl) (by rfl) HFW.out.1 HS83.out HFW.out.2.1 (.inl ⟨f, .slice Au nb cu, HPSS.out ⟨HOK.out, HEQ.out⟩, by rw [HFC.out], ?_, HPS16.out.rd.1.trans (HFW.out.2.2.2.2.2 _ HPS16.out.n1 (by have := HPS16.out.n1; omega))⟩)
          rw [HBD.out]
          exact (HFW.out.2.2.2.2.1 _ _ _ HOU16.out (by have := HG4.out; have := HPS16.out.n23; have := HPS16.out.n34; omega) (by have := HG4.out; have := HPS16.out.n23; have := HPS16.out.n34; omega)).eqn
        · have hqb : (b == bodyF f) = false := by rw [beq_eq_false_iff_ne]; exact fun h => heq h.symm
          rw [hqb] at EQ
          have HEQ := Lib.hid heq
          clear heq hqb
          have FW := fin_world (FC := zeroC) (ev := 180) HPS16.out.h1 HPS16.out.h2 (by omega)
          have HFW := Lib.hid FW
          have hq := FW.2.2.1
          have hf2 := FW.2.2.2.1
          have HZ0 := Lib.hid HPS16.out.h1
          clear FW
          go_wp2_with (first | (go_at_call 95; refine EQ.out.mono ?_; rintro e w17 ⟨rfl, rfl⟩) | ((with_reducible show wpList _ _ _ (⟨none, .store 83 (.tmp 2) (.tmp 65), _, _, _, _⟩ :: _) _ _); refine wpList_store_row rfl 83 (.tmp 2) (.tmp 65) rfl g1 zeroC rfl rfl 83 _ HZ0.out HSZ.out rfl zeroC_one ?_) | fail)
          exact parse_idle (by rfl) (by rfl) HFW.out.1 HSZ.out HFW.out.2.1 (.inr ⟨HPN.out (fun h => HEQ.out h.2), rfl, HPS16.out.rd.1.trans (HFW.out.2.2.2.2.2 _ HPS16.out.n1 (by have := HPS16.out.n1; omega))⟩)
      · rw [if_neg hok] at hCK
        have CK := Lib.hid hCK
        have HOK := Lib.hid hok
        clear hCK hok HCB
        go_wp2_with (first | ((with_reducible show wpList _ _ _ (⟨some 55, .load 83 (.tmp 5), _, _, _, _⟩ :: _) _ _); refine wpList_load_cells rfl 83 (.tmp 5) rfl ⟨g4, 0, none⟩ rfl FC _ rfl (fun j v hj => by rw [add_zero_off, Joins.cell_of_block HPS.out.h4]; exact hj) Try.underlying83 HS83.out ?_) | fail)
        refine (CK.out wc).mono ?_
        rintro e w15 ⟨rfl, hb15⟩
        have HPS15 := Lib.hid (HPS.out.low hb15)
        clear hb15 CK
        have FW := fin_world (FC := zeroC) (ev := 180) HPS15.out.h1 HPS15.out.h2 (by omega)
        have HFW := Lib.hid FW
        have hq := FW.2.2.1
        have hf2 := FW.2.2.2.1
        have HZ0 := Lib.hid HPS15.out.h1
        clear FW
        go_wp2_with (first | ((with_reducible show wpList _ _ _ (⟨none, .store 83 (.tmp 2) (.tmp 65), _, _, _, _⟩ :: _) _ _); refine wpList_store_row rfl 83 (.tmp 2) (.tmp 65) rfl g1 zeroC rfl rfl 83 _ HZ0.out HSZ.out rfl zeroC_one ?_) | fail)
        exact parse_idle (by rfl) (by rfl) HFW.out.1 HSZ.out HFW.out.2.1 (.inr ⟨HPN.out (fun h => HOK.out h.1), rfl, HPS15.out.rd.1.trans (HFW.out.2.2.2.2.2 _ HPS15.out.n1 (by have := HPS15.out.n1; omega))⟩)
end Go.Proofs.Ytjaakhjfpigdfaa
/-! Frames: opened. -/
namespace Go.Proofs.Ytjaakhjfpigdfaa
open Go.RowKit
set_option linter.unusedVariables false
set_option linter.unusedSimpArgs false
def zeroFr : Fr := ⟨0, 0, 0, 0, 0, [], 0, 0⟩
/-- What is opened of some bytes, and the answer's number. -/
def opF (k b : By) : Fr × Int := if b.length < 32 then (zeroFr, 180) else match parseF (bodyOf b) with
  | none => (zeroFr, 180)
  | some f => if sealF k (BitVec.ofInt 8 f.fr) (bodyOf b) = tagOf b then (f, 0) else (zeroFr, 40)
def pdFO (kv : Value) (a0 a2 : Addr) (n c m c2 g7 : Nat) (x0 : BitVec 8) (Z tg : By) : Nat → Value → World → Prop
  | 0 => fun v w => v = kv
  | 1 => fun v w => v = .pointer (some ⟨g7, 0, none⟩)
  | 2 => fun v w => v = .int .i64 (x0.toNat : Int)
  | 3 => fun v w => v = .slice (some a0) n c
  | 4 => fun v w => v = .int .i64 (m : Int)
  | 5 => fun v w => v = .slice (some a0) m c
  | 6 => fun v w => v = .agg (V8 Z)
  | 7 => fun v w => v = .slice (some a0) n c
  | 8 => fun v w => v = .int .i64 (m : Int)
  | 9 => fun v w => v = .slice (some a2) 32 c2
  | 10 => fun v w => v = .pointer (some a2)
  | 11 => fun v w => v = .agg (V8 tg)
  | 12 => fun v w => v = .bool (Z == tg)
  | _ => fun _ _ => True
theorem pdFO_mono (kv : Value) (a0 a2 : Addr) (n c m c2 g7 : Nat) (x0 : BitVec 8) (Z tg : By) : ∀ q0 v w w', pdFO kv a0 a2 n c m c2 g7 x0 Z tg q0 v w → Below w.heap.size w w' → pdFO kv a0 a2 n c m c2 g7 x0 Z tg q0 v w'
  | 0, _, _, _, h, _ => h
  | 1, _, _, _, h, _ => h
  | 2, _, _, _, h, _ => h
  | 3, _, _, _, h, _ => h
  | 4, _, _, _, h, _ => h
  | 5, _, _, _, h, _ => h
  | 6, _, _, _, h, _ => h
  | 7, _, _, _, h, _ => h
  | 8, _, _, _, h, _ => h
  | 9, _, _, _, h, _ => h
  | 10, _, _, _, h, _ => h
  | 11, _, _, _, h, _ => h
  | 12, _, _, _, h, _ => h
  | _ + 13, _, _, _, _, _ => trivial
theorem zero_u8 {w : World} {g : Nat} (h : w.heap[g]? = some (.cells zeroC 83 (0, 0))) : ∀ (ad : Addr) (x : Int), w.cell? ad = some (.int .u8 x) → ad.block ≠ g := by
  have hall : ∀ (j : Nat) (x : Int), zeroC[j]? ≠ some (.int .u8 x) := by
    intro j x hj
    rcases j with _ | _ | _ | _ | _ | _ | _ | _ | j <;> simp [zeroC] at hj
  intro ad x hc e
  subst e
  unfold World.cell? at hc
  rw [h] at hc
  simp only at hc
  split at hc
  · cases hc
  · exact hall _ _ hc
set_option maxRecDepth 100000 in
theorem open_out (g4 : Nat) (XC : Array Value) (ev : Int) (w' : World) (tm : Array Value) (ht : tm[4]?.getD undef = .pointer (some ⟨g4, 0, none⟩)) (ht5 : tm[5]?.getD undef = .int .i64 ev) (h1 : w'.heap[g4]? = some (.cells XC 83 (0, 0))) (hx : (Try.prog.info? 83).map (·.size) = some XC.size) :
    (results Try.f68 tm).run Try.prog w' = .ok (.tuple #[.agg XC, .int .i64 ev]) w' := by
  have e1 := run_loadVar_row (P := Try.prog) w' g4 83 83 XC (0, 0) _ h1 Try.underlying83 rfl hx
  simp [results, Try.results68, asAddr, ht, ht5, e1]
theorem fr_cells_one (f : Fr) (A : Option Addr) (n c : Nat) : (#[.int .i64 f.fr, .int .i64 f.ep, .int .u64 (f.me.toNat : Int), .int .u64 (f.you.toNat : Int), .int .i64 f.n, .slice A n c, .int .i64 f.all, .int .u64 (f.more.toNat : Int)] : Array Value).all (·.oneCell') = true := by kernel_rfl
set_option maxRecDepth 100000 in
set_option maxHeartbeats 8000000 in
theorem fOpen_any (k : By) (kv : Value) (b : By) (bv : Value) (w : World) (hk : EqN w k kv) (hkl : k.length ≤ 1000000) (hb : EqN w b bv) (hbl : b.length ≤ 1000000) : Calls Try.prog 68 #[kv, bv] w fun e w' => ∃ u, e = .returned (.tuple #[frV (opF k b).1 u, .int .i64 (opF k b).2]) ∧ EqN w' (opF k b).1.body u ∧ Below w.heap.size w w' := by
  have HSZ := Lib.hid (show (Try.prog.info? 83).map (·.size) = some zeroC.size by kernel_rfl)
  have hz : zeroC = #[.int .i64 0, .int .i64 0, .int .u64 0, .int .u64 0, .int .i64 0, .slice none 0 0, .int .i64 0, .int .u64 0] := rfl
  have HZC := Lib.hid hz
  have z4 := heap_new w (.cells zeroC 83) w.heap.size rfl
  have b4 := below_alloc1 w (.cells zeroC 83)
  have HKL := Lib.hid hkl
  obtain ⟨W1, hW1⟩ : ∃ W, w.alloc (.cells zeroC 83) = W := ⟨_, rfl⟩
  rw [hW1] at z4 b4
  have HW1 := Lib.hid hW1
  have HKV1 := Lib.hid (hk.below b4)
  have HBV := Lib.hid hb
  have Z4 := Lib.hid z4
  have B4 := Lib.hid b4
  obtain ⟨A, c, rfl, hc, hr, hn⟩ := hb
  have HR := Lib.hid hr
  obtain ⟨n, hbn⟩ : ∃ n, b.length = n := ⟨_, rfl⟩
  have HBN := Lib.hid hbn
  rw [hbn] at hc hbl HBV ⊢
  clear hk hr hn hbn hkl hz z4 b4 hW1
  by_cases h32 : n < 32
  · have HS := Lib.hid (show opF k b = (zeroFr, 180) by unfold opF; rw [HBN.out, if_pos h32])
    have hI : decide ((n : Int) - 32 < 0) = true := by simp; omega
    go_enter Try.func68, Try.ntmps68
    go_upto_region 1 with (fail)
    rw [← HZC.out, HW1.out]
    clear HW1
    go_wp2_with (first | ((with_reducible show wpList _ _ _ (⟨none, .store 83 (.tmp 4) (.tmp 14), _, _, _, _⟩ :: _) _ _); refine wpList_store_row rfl 83 (.tmp 4) (.tmp 14) rfl w.heap.size zeroC rfl rfl 83 _ Z4.out HSZ.out rfl zeroC_one ?_) | fail)
    have hs : W1.setRow w.heap.size zeroC = W1 := Go.setRow_self W1 w.heap.size zeroC 83 (0, 0) Z4.out
    rw [hs]
    refine bodyPost_ret (v := .tuple #[.agg zeroC, .int .i64 180]) (open_out w.heap.size zeroC 180 W1 _ (by rfl) (by rfl) Z4.out HSZ.out) rfl ⟨.slice none 0 0, ?_, ?_, B4.out⟩
    · rw [HS.out]; rfl
    · rw [HS.out]; exact EqN.nil _
  · obtain ⟨m, hm⟩ : ∃ m, n - 32 = m := ⟨_, rfl⟩
    have hnm : n = m + 32 := by omega
    have hmc : m ≤ c := by omega
    have hmI : (n : Int) - 32 = (m : Int) := by omega
    have HBD1 := Lib.hid (show EqN w (bodyOf b) (.slice A m c) from by
      unfold bodyOf
      rw [HBN.out, hm]
      have h := HBV.out
      rw [← HBN.out] at h
      exact h.take m (by rw [HBN.out]; omega))
    have hfr := fun w => run_from A n c m (by omega) (by omega) w
    have hdrop := HR.out.drop m c (by rw [HBN.out]; omega) (by rw [HBN.out]; exact hc)
    rw [if_neg (show ¬ c = m by omega)] at hdrop
    simp only [if_neg (show ¬ c = m by omega)] at hfr
    obtain ⟨a0, rfl⟩ : ∃ a, A = some a := by
      obtain ⟨a, e, _⟩ := RdB.at' HR.out 0 (by rw [HBN.out]; omega)
      exact ⟨a, e⟩
    simp only [Option.map_some] at hdrop hfr
    obtain ⟨a2, ha2⟩ : ∃ a, a0.add m = a := ⟨_, rfl⟩
    obtain ⟨c2, hc2⟩ : ∃ a, c - m = a := ⟨_, rfl⟩
    rw [ha2] at hdrop
    rw [ha2, hc2, show n - m = 32 by omega] at hfr
    have htl : (tagOf b).length = 32 := by unfold tagOf; rw [List.length_drop, HBN.out]; omega
    have hbdl : (bodyOf b).length ≤ 1000000 := by unfold bodyOf; rw [List.length_take, HBN.out]; omega
    have htg : RdB w (some a2) (tagOf b) := by unfold tagOf; rw [HBN.out, hm]; exact hdrop
    have HFR := Lib.hid hfr
    have HOP := Lib.hid (show opF k b = (match parseF (bodyOf b) with
      | none => (zeroFr, 180)
      | some f => if sealF k (BitVec.ofInt 8 f.fr) (bodyOf b) = tagOf b then (f, 0) else (zeroFr, 40)) by unfold opF; rw [HBN.out, if_neg h32])
    obtain ⟨bd, hbd2⟩ : ∃ q, bodyOf b = q := ⟨_, rfl⟩
    obtain ⟨tg, htg2⟩ : ∃ q, tagOf b = q := ⟨_, rfl⟩
    rw [hbd2] at HBD1 hbdl HOP
    rw [htg2] at htg htl HOP
    have HTG1 := Lib.hid htg
    have HBDL := Lib.hid hbdl
    have HTL := Lib.hid htl
    have HST := Lib.hid (show (Try.prog.info? 25).map (·.size) = some (V8 tg).size by rw [V8_size, htl]; kernel_rfl)
    have hdec : decide ((n : Int) - 32 < 0) = false := by rw [hmI]; simp; try omega
    have hdec2 : decide ((m : Int) < 0) = false := by simp; try omega
    have PA := Lib.hid (parse_any bd (.slice (some a0) m c) W1 (HBD1.out.below B4.out) hbdl)
    clear hdrop hfr htg htl hbdl hbd2 htg2 ha2 hc2 h32 hm HR HBV
    go_enter Try.func68, Try.ntmps68
    go_upto_region 1 with (fail)
    rw [← HZC.out, HW1.out]
    clear HW1
    go_upto_region 4 with (fail)
    try rw [hmI]
    clear hdec hmI
    have HNM := Lib.hid hnm
    have hm6 : m ≤ 1000000 := by omega
    clear hnm
    go_wp2_with fail
    refine PA.out.mono ?_
    rintro e w2 (⟨f, u, hpf, rfl, hEu, hb2⟩ | ⟨hpf, rfl, hb2⟩)
    rotate_left
    · have HS := Lib.hid (show opF k b = (zeroFr, 180) by rw [HOP.out, hpf])
      have z2 := keepH hb2 Z4.out
      have b2 := B4.out.trans (hb2.mono B4.out.size)
      have Z2 := Lib.hid (show (w2.alloc (.cells zeroC 83)).heap[w.heap.size]? = some (.cells zeroC 83 (0, 0)) from keepH (below_alloc1 _ _) z2)
      have hs7 : (w2.alloc (.cells zeroC 83)).setRow w2.heap.size zeroC = w2.alloc (.cells zeroC 83) := Go.setRow_self _ w2.heap.size zeroC 83 (0, 0) (heap_new _ _ _ rfl)
      have hs4 : (w2.alloc (.cells zeroC 83)).setRow w.heap.size zeroC = w2.alloc (.cells zeroC 83) := Go.setRow_self _ w.heap.size zeroC 83 (0, 0) Z2.out
      have HS7 := Lib.hid hs7
      have HS4 := Lib.hid hs4
      have B2 := Lib.hid (b2.trans ((below_alloc1 w2 (.cells zeroC 83)).mono b2.size))
      have HZ83 := Lib.hid (show (w2.alloc (.cells zeroC 83)).heap[w2.heap.size]? = some (.cells zeroC 83 (0, 0)) from heap_new _ _ _ rfl)
      clear hpf z2 b2 hs7 hs4 hb2 PA HOP
      go_wp2_with (first | ((with_reducible show wpList _ _ _ (⟨none, .store 83 (.tmp 7) (.tmp 20), _, _, _, _⟩ :: _) _ _); rw [← HZC.out]; refine wpList_store_row rfl 83 (.tmp 7) (.tmp 20) rfl w2.heap.size zeroC rfl rfl 83 _ HZ83.out HSZ.out rfl zeroC_one ?_; rw [HS7.out]) | ((with_reducible show wpList _ _ _ (⟨none, .store 83 (.tmp 4) (.tmp 24), _, _, _, _⟩ :: _) _ _); refine wpList_store_row rfl 83 (.tmp 4) (.tmp 24) rfl w.heap.size zeroC rfl rfl 83 _ Z2.out HSZ.out rfl zeroC_one ?_; rw [HS4.out]) | fail)
      refine bodyPost_ret (v := .tuple #[.agg zeroC, .int .i64 180]) (open_out w.heap.size zeroC 180 _ _ (by rfl) (by rfl) Z2.out HSZ.out) rfl ⟨.slice none 0 0, ?_, ?_, B2.out⟩
      · rw [HS.out]; rfl
      · rw [HS.out]; exact EqN.nil _
    obtain ⟨hok, hbf⟩ := parse_some bd f hpf
    have h1 := ((okF_iff f).1 hok).1
    have hOS : opF k b = if sealF k (BitVec.ofInt 8 f.fr) bd = tg then (f, 0) else (zeroFr, 40) := by rw [HOP.out, hpf]
    obtain ⟨Au, cu, hu, hcu, hru, hnu⟩ := hEu
    have hE2 : EqN w2 f.body (.slice Au f.body.length cu) := ⟨Au, cu, rfl, hcu, hru, hnu⟩
    subst hu
    obtain ⟨fr, ep, me, you, nn, body, al, more⟩ := f
    simp only at h1 hE2
    obtain ⟨x0, hx0, rfl⟩ : ∃ x0 : BitVec 8, BitVec.ofInt 8 fr = x0 ∧ fr = (x0.toNat : Int) := ⟨BitVec.ofInt 8 fr, rfl, by rcases h1 with rfl | rfl <;> rfl⟩
    simp only [hx0] at hOS
    obtain ⟨bl, hbl2⟩ : ∃ n, body.length = n := ⟨_, rfl⟩
    have hfo := fr_cells_one ⟨(x0.toNat : Int), ep, me, you, nn, body, al, more⟩ Au bl cu
    have hfv : frV ⟨(x0.toNat : Int), ep, me, you, nn, body, al, more⟩ (.slice Au bl cu) = .agg #[.int .i64 (x0.toNat : Int), .int .i64 ep, .int .u64 (me.toNat : Int), .int .u64 (you.toNat : Int), .int .i64 nn, .slice Au bl cu, .int .i64 al, .int .u64 (more.toNat : Int)] := rfl
    simp only [hbl2] at hE2 ⊢
    simp only at hfo
    have hbody : (⟨(x0.toNat : Int), ep, me, you, nn, body, al, more⟩ : Fr).body = body := rfl
    obtain ⟨f, hf⟩ : ∃ f, (⟨(x0.toNat : Int), ep, me, you, nn, body, al, more⟩ : Fr) = f := ⟨_, rfl⟩
    rw [hf] at hOS hfv hbody ⊢
    obtain ⟨FC, hFC⟩ : ∃ F : Array Value, #[.int .i64 (x0.toNat : Int), .int .i64 ep, .int .u64 (me.toNat : Int), .int .u64 (you.toNat : Int), .int .i64 nn, .slice Au bl cu, .int .i64 al, .int .u64 (more.toNat : Int)] = F := ⟨_, rfl⟩
    rw [hFC] at hfo hfv
    have HF0 := Lib.hid (show FC[0]? = some (.int .i64 (x0.toNat : Int)) by rw [← hFC]; rfl)
    have HFS := Lib.hid (show zeroC.size = FC.size by rw [← hFC]; rfl)
    have HS83 := Lib.hid (show (Try.prog.info? 83).map (·.size) = some FC.size by rw [← hFC]; kernel_rfl)
    have HFV := Lib.hid hfv
    have HF1 := Lib.hid hfo
    rw [hfv]
    obtain ⟨Z, hZ⟩ : ∃ Z, sealF k x0 bd = Z := ⟨_, rfl⟩
    have hzl := sealF_len k x0 bd
    rw [hZ] at hOS hzl
    have HZ1 := Lib.hid hZ
    have HZL := Lib.hid hzl
    have HOS := Lib.hid hOS
    have HBODY := Lib.hid hbody
    have HE2 := Lib.hid hE2
    have Z2 := Lib.hid (keepH hb2 Z4.out)
    have HB2 := Lib.hid hb2
    have BW2 := Lib.hid (B4.out.trans (hb2.mono B4.out.size))
    clear hok hbf hpf h1 hOS hcu hru hnu hE2 hx0 hbl2 hfo hfv hbody hf hFC hZ hzl hb2 PA HOP
    go_upto_region 7 with (first | ((with_reducible show wpList _ _ _ (⟨none, .store 83 (.tmp 7) (.tmp 20), _, _, _, _⟩ :: _) _ _); rw [← HZC.out]; refine wpList_store_row rfl 83 (.tmp 7) (.tmp 20) rfl w2.heap.size FC rfl rfl 83 _ (heap_new _ _ _ rfl) HS83.out HFS.out HF1.out ?_) | fail)
    generalize hW5 : (World.setRow _ _ _) = W5
    obtain ⟨g7, hg7⟩ : ∃ g, w2.heap.size = g := ⟨_, rfl⟩
    have b5 : Below w2.heap.size w2 W5 := by rw [← hW5]; exact below_setRow _ _ ((Below.refl _ _).alloc (Nat.le_refl _) _) (Nat.le_refl _)
    have HG7 := Lib.hid (show W5.heap[g7]? = some (.cells FC 83 (0, 0)) by rw [← hW5, ← hg7]; exact setRow_heap _ _ _ _ _ _ (heap_new _ _ _ rfl))
    have Z5 := Lib.hid (keepH b5 Z2.out)
    have BW5 := Lib.hid (BW2.out.trans (b5.mono BW2.out.size))
    have HKV := Lib.hid ((HKV1.out.below HB2.out).below b5)
    have HBD := Lib.hid (HBD1.out.below BW5.out)
    have HTG := Lib.hid (HTG1.out.below BW5.out (fun _ _ h => h))
    have HE5 := Lib.hid (HE2.out.below b5)
    rw [hg7]
    clear hW5 hg7 b5 HE2 Z2 HB2 BW2
    refine wp_region_mono (w0 := _) 13 [some 26, some 27, some 28, some 29, some 30, some 31, some 32, some 33, some 34, some 35, some 36, some 37, some 38] (by kernel_rfl) (by kernel_rfl) (by kernel_rfl) (by kernel_rfl) (of_decide_eq_true (by kernel_rfl)) (by kernel_rfl) (pdFO kv a0 a2 n c m c2 g7 x0 Z tg) ?_ ?_ ?_
    · exact pdFO_mono kv a0 a2 n c m c2 g7 x0 Z tg
    · intro i hi o w1 b ho hbel hv hstood hsize K hK
      have hc : i = 0 ∨ i = 1 ∨ i = 2 ∨ i = 3 ∨ i = 4 ∨ i = 5 ∨ i = 6 ∨ i = 7 ∨ i = 8 ∨ i = 9 ∨ i = 10 ∨ i = 11 ∨ i = 12 := by omega
      rcases hc with rfl | rfl | rfl | rfl | rfl | rfl | rfl | rfl | rfl | rfl | rfl | rfl | rfl
      · obtain rfl : (⟨some 26, .move (Operand.tmp 0), _, _, _, _⟩ : Oper) = o := Option.some.inj ho
        refine ask_plain rfl ?_
        have e : b.eval (.tmp 0) = kv := (hstood 0 (by kernel_rfl)).trans rfl
        exact wp_val _ rfl (hK _ _ e (Below.refl _ _))
      · obtain rfl : (⟨some 27, .fieldAddr 83 (Operand.tmp 7) 0, _, _, _, _⟩ : Oper) = o := Option.some.inj ho
        refine ask_plain rfl ?_
        have e : b.eval (.tmp 7) = .pointer (some ⟨g7, 0, none⟩) := (hstood 7 (by kernel_rfl)).trans rfl
        exact wp_val (.pointer (some ⟨g7, 0, none⟩)) (by simp only [execOp, e, Sem.run_bind, field83 g7 0 (by decide), Result.andThen]; rfl) (hK _ _ rfl (Below.refl _ _))
      · obtain rfl : (⟨some 28, .load 3 (Operand.tmp 27), _, _, _, _⟩ : Oper) = o := Option.some.inj ho
        refine ask_plain rfl ?_
        have e : b.eval (.tmp 27) = .pointer (some ⟨g7, 0, none⟩) := hv 1 27 (by kernel_rfl) (by kernel_rfl) (of_decide_eq_true (by kernel_rfl))
        have hq : w1.cell? ⟨g7, 0, none⟩ = some (.int .i64 (x0.toNat : Int)) := by rw [Joins.cell_of_block (keepH hbel HG7.out)]; exact HF0.out
        exact wp_val (.int .i64 (x0.toNat : Int)) (by simp only [execOp, e]; exact load3 _ _ _ hq) (hK _ _ rfl (Below.refl _ _))
      · obtain rfl : (⟨some 29, .move (Operand.tmp 1), _, _, _, _⟩ : Oper) = o := Option.some.inj ho
        refine ask_plain rfl ?_
        have e : b.eval (.tmp 1) = .slice (some a0) n c := (hstood 1 (by kernel_rfl)).trans rfl
        exact wp_val _ rfl (hK _ _ e (Below.refl _ _))
      · obtain rfl : (⟨some 30, .move (Operand.tmp 6), _, _, _, _⟩ : Oper) = o := Option.some.inj ho
        refine ask_plain rfl ?_
        have e : b.eval (.tmp 6) = .int .i64 (m : Int) := (hstood 6 (by kernel_rfl)).trans rfl
        exact wp_val _ rfl (hK _ _ e (Below.refl _ _))
      · obtain rfl : (⟨some 31, .slice 35 (Operand.tmp 29) none (some (Operand.tmp 30)) none, _, _, _, _⟩ : Oper) = o := Option.some.inj ho
        refine ask_plain rfl ?_
        have e1 : b.eval (.tmp 29) = .slice (some a0) n c := hv 3 29 (by kernel_rfl) (by kernel_rfl) (of_decide_eq_true (by kernel_rfl))
        have e2 : b.eval (.tmp 30) = .int .i64 (m : Int) := hv 4 30 (by kernel_rfl) (by kernel_rfl) (of_decide_eq_true (by kernel_rfl))
        have hf := run_take (some a0) n c m hmc w1
        exact wp_val (.slice (some a0) m c) (by simp only [execOp, e1, e2, hf, Option.map_some, Option.map_none, Sem.run_bind, Result.andThen]; rfl) (hK _ _ rfl (Below.refl _ _))
      · obtain rfl : (⟨some 32, .call { callee := (Callee.value (Operand.func 91)), args := #[(Operand.tmp 26), (Operand.tmp 28), (Operand.tmp 31)], argTypes := #[35, 3, 35] }, _, _, _, _⟩ : Oper) = o := Option.some.inj ho
        refine ask_plain rfl ?_
        have e1 : b.eval (.tmp 26) = kv := hv 0 26 (by kernel_rfl) (by kernel_rfl) (of_decide_eq_true (by kernel_rfl))
        have e2 : b.eval (.tmp 28) = .int .i64 (x0.toNat : Int) := hv 2 28 (by kernel_rfl) (by kernel_rfl) (of_decide_eq_true (by kernel_rfl))
        have e3 : b.eval (.tmp 31) = .slice (some a0) m c := hv 5 31 (by kernel_rfl) (by kernel_rfl) (of_decide_eq_true (by kernel_rfl))
        have hcall := fseal_any k kv x0 bd (.slice (some a0) m c) w1 (HKV.out.below hbel) HKL.out (HBD.out.below hbel) HBDL.out
        rw [HZ1.out] at hcall
        refine wp_call_fn 91 #[.tmp 26, .tmp 28, .tmp 31] #[35, 3, 35] rfl Try.f91 _ Try.func91 (by kernel_rfl) rfl #[kv, .int .i64 (x0.toNat : Int), .slice (some a0) m c] (by simp [e1, e2, e3]) (hcall.mono ?_)
        rintro e w2 ⟨rfl, hb2⟩
        exact ⟨_, rfl, hK _ _ rfl hb2⟩
      · obtain rfl : (⟨some 33, .move (Operand.tmp 1), _, _, _, _⟩ : Oper) = o := Option.some.inj ho
        refine ask_plain rfl ?_
        have e : b.eval (.tmp 1) = .slice (some a0) n c := (hstood 1 (by kernel_rfl)).trans rfl
        exact wp_val _ rfl (hK _ _ e (Below.refl _ _))
      · obtain rfl : (⟨some 34, .move (Operand.tmp 6), _, _, _, _⟩ : Oper) = o := Option.some.inj ho
        refine ask_plain rfl ?_
        have e : b.eval (.tmp 6) = .int .i64 (m : Int) := (hstood 6 (by kernel_rfl)).trans rfl
        exact wp_val _ rfl (hK _ _ e (Below.refl _ _))
      · obtain rfl : (⟨some 35, .slice 35 (Operand.tmp 33) (some (Operand.tmp 34)) none none, _, _, _, _⟩ : Oper) = o := Option.some.inj ho
        refine ask_plain rfl ?_
        have e1 : b.eval (.tmp 33) = .slice (some a0) n c := hv 7 33 (by kernel_rfl) (by kernel_rfl) (of_decide_eq_true (by kernel_rfl))
        have e2 : b.eval (.tmp 34) = .int .i64 (m : Int) := hv 8 34 (by kernel_rfl) (by kernel_rfl) (of_decide_eq_true (by kernel_rfl))
        have hf := HFR.out w1
        exact wp_val (.slice (some a2) 32 c2) (by simp only [execOp, e1, e2, hf, Option.map_some, Option.map_none, Sem.run_bind, Result.andThen]; rfl) (hK _ _ rfl (Below.refl _ _))
      · obtain rfl : (⟨some 36, .sliceToArrayPointer 25 (Operand.tmp 35), _, _, _, _⟩ : Oper) = o := Option.some.inj ho
        refine ask_plain rfl ?_
        have e : b.eval (.tmp 35) = .slice (some a2) 32 c2 := hv 9 35 (by kernel_rfl) (by kernel_rfl) (of_decide_eq_true (by kernel_rfl))
        have hf := run_arrayAt (P := Try.prog) w1 25 5 32 (some a2) 32 c2 Try.underlying25 (Nat.le_refl _)
        exact wp_val (.pointer (some a2)) (by simp [execOp, e, hf]) (hK _ _ rfl (Below.refl _ _))
      · obtain rfl : (⟨some 37, .load 25 (Operand.tmp 36), _, _, _, _⟩ : Oper) = o := Option.some.inj ho
        refine ask_plain rfl ?_
        have e1 : b.eval (.tmp 36) = .pointer (some a2) := hv 10 36 (by kernel_rfl) (by kernel_rfl) (of_decide_eq_true (by kernel_rfl))
        exact wp_load_cells 25 (.tmp 36) rfl a2 e1 (V8 tg) _ rfl (fun j v hj => RdB.v8 (HTG.out.below hbel (fun _ _ h => h)) j v hj) Try.underlying25 HST.out (hK _ _ rfl (Below.refl _ _))
      · obtain rfl : (⟨some 38, .call { callee := (Callee.value (Operand.func 50)), args := #[(Operand.tmp 32), (Operand.tmp 37)], argTypes := #[25, 25] }, _, _, _, _⟩ : Oper) = o := Option.some.inj ho
        refine ask_plain rfl ?_
        have e1 : b.eval (.tmp 32) = .agg (V8 Z) := hv 6 32 (by kernel_rfl) (by kernel_rfl) (of_decide_eq_true (by kernel_rfl))
        have e2 : b.eval (.tmp 37) = .agg (V8 tg) := hv 11 37 (by kernel_rfl) (by kernel_rfl) (of_decide_eq_true (by kernel_rfl))
        refine wp_call_fn 50 #[.tmp 32, .tmp 37] #[25, 25] rfl Try.f50 _ Try.func50 (by kernel_rfl) rfl #[.agg (V8 Z), .agg (V8 tg)] (by simp [e1, e2]) ((same_any Z tg HZL.out HTL.out w1).mono ?_)
        rintro e w2 ⟨rfl, hb2⟩
        exact ⟨_, rfl, hK _ _ rfl hb2⟩
    · intro vs w7 hp hb7
      have v12 : vs 12 = .bool (Z == tg) := hp 12 (by decide)
      have Z7 := Lib.hid (keepH hb7 Z5.out)
      have G7 := Lib.hid (keepH hb7 HG7.out)
      have BW7 := Lib.hid (BW5.out.trans (hb7.mono BW5.out.size))
      have HE7 := Lib.hid (HE5.out.below hb7)
      change wpList _ _ _ [_] _ _
      by_cases hq : Z = tg
      · rw [show (Z == tg) = true by rw [hq]; simp] at v12
        have HQ := Lib.hid (show opF k b = (f, 0) by rw [HOS.out, if_pos hq])
        simp only [putD, Act.put, List.setIfInBounds_toArray, List.set_cons_zero, List.set_cons_succ, v12]
        generalize vs 0 = y0, vs 1 = y1, vs 2 = y2, vs 3 = y3, vs 4 = y4, vs 5 = y5, vs 6 = y6, vs 7 = y7, vs 8 = y8, vs 9 = y9, vs 10 = y10, vs 11 = y11
        clear hp hb7 hq v12 HOS
        go_wp2_with (first | ((with_reducible show wpList _ _ _ (⟨some 41, .load 83 (.tmp 7), _, _, _, _⟩ :: _) _ _); refine wpList_load_cells rfl 83 (.tmp 7) rfl ⟨g7, 0, none⟩ rfl FC _ rfl (fun j v hj => by rw [add_zero_off, Joins.cell_of_block G7.out]; exact hj) Try.underlying83 HS83.out ?_) | ((with_reducible show wpList _ _ _ (⟨none, .store 83 (.tmp 4) (.tmp 41), _, _, _, _⟩ :: _) _ _); refine wpList_store_row rfl 83 (.tmp 4) (.tmp 41) rfl w.heap.size FC rfl rfl 83 _ Z7.out HS83.out HFS.out HF1.out ?_) | fail)
        refine bodyPost_ret (v := .tuple #[.agg FC, .int .i64 0]) (open_out w.heap.size FC 0 _ _ (by rfl) (by rfl) (setRow_heap w7 w.heap.size _ FC 83 _ Z7.out) HS83.out) rfl ⟨.slice Au bl cu, ?_, ?_, below_setRow _ _ BW7.out (Nat.le_refl _)⟩
        · rw [HQ.out, HFV.out]
        · rw [HQ.out, HBODY.out]
          exact HE7.out.bes ((Bes.refl w.heap.size w7).setRow FC) (zero_u8 Z7.out)
      · rw [show (Z == tg) = false by rw [beq_eq_false_iff_ne]; exact hq] at v12
        have HQ := Lib.hid (show opF k b = (zeroFr, 40) by rw [HOS.out, if_neg hq])
        have hs4 : w7.setRow w.heap.size zeroC = w7 := Go.setRow_self _ w.heap.size zeroC 83 (0, 0) Z7.out
        have HS4 := Lib.hid hs4
        simp only [putD, Act.put, List.setIfInBounds_toArray, List.set_cons_zero, List.set_cons_succ, v12]
        generalize vs 0 = y0, vs 1 = y1, vs 2 = y2, vs 3 = y3, vs 4 = y4, vs 5 = y5, vs 6 = y6, vs 7 = y7, vs 8 = y8, vs 9 = y9, vs 10 = y10, vs 11 = y11
        clear hp hb7 hq v12 HOS hs4
        go_wp2_with (first | ((with_reducible show wpList _ _ _ (⟨none, .store 83 (.tmp 4) (.tmp 40), _, _, _, _⟩ :: _) _ _); refine wpList_store_row rfl 83 (.tmp 4) (.tmp 40) rfl w.heap.size zeroC rfl rfl 83 _ Z7.out HSZ.out rfl zeroC_one ?_; rw [HS4.out]) | fail)
        refine bodyPost_ret (v := .tuple #[.agg zeroC, .int .i64 40]) (open_out w.heap.size zeroC 40 _ _ (by rfl) (by rfl) Z7.out HSZ.out) rfl ⟨.slice none 0 0, ?_, ?_, BW7.out⟩
        · rw [HQ.out]; rfl
        · rw [HQ.out]; exact EqN.nil _
end Go.Proofs.Ytjaakhjfpigdfaa
/-! Frames: awake. -/
namespace Go.Proofs.Ytjaakhjfpigdfaa
open Go.RowKit
set_option linter.unusedVariables false
set_option linter.unusedSimpArgs false
/-- What is sealed is opened. -/
theorem op_seal (k : By) (f : Fr) (h : okF f = true) : opF k (sealB k f) = (f, 0) := by
  have hl := sealF_len k (BitVec.ofInt 8 f.fr) (bodyF f)
  have e : sealB k f = bodyF f ++ sealF k (BitVec.ofInt 8 f.fr) (bodyF f) := by unfold sealB; rw [if_pos h]
  have hn : (sealB k f).length = (bodyF f).length + 32 := by rw [e, List.length_append, hl]
  have hb : bodyOf (sealB k f) = bodyF f := by
    unfold bodyOf
    rw [hn, e, show (bodyF f).length + 32 - 32 = (bodyF f).length by omega, List.take_left]
  have ht : tagOf (sealB k f) = sealF k (BitVec.ofInt 8 f.fr) (bodyF f) := by
    unfold tagOf
    rw [hn, e, show (bodyF f).length + 32 - 32 = (bodyF f).length by omega, List.drop_left]
  unfold opF
  rw [if_neg (by omega), hb, parse_body f h, ht]
  simp
theorem sealB_len (k : By) (f : Fr) : (sealB k f).length ≤ 600032 := by
  unfold sealB
  split
  · rename_i h
    rw [List.length_append, sealF_len]
    have := bodyF_len f h
    omega
  · simp
def f0 : Fr := ⟨1, 3, 7#64, 9#64, 2, [97#8, 98#8], 0, 0#64⟩
def key0 : By := [107#8, 101#8, 121#8]
theorem f0_ok : okF f0 = true := by decide +kernel
theorem f0_v (u : Value) : frV f0 u = .agg #[.int .i64 1, .int .i64 3, .int .u64 7, .int .u64 9, .int .i64 2, u, .int .i64 0, .int .u64 0] := by kernel_rfl
set_option maxRecDepth 100000 in
set_option maxHeartbeats 8000000 in
theorem fawake_any (w : World) : Calls Try.prog 67 #[] w fun e w' => e = .returned (.bool true) ∧ Below w.heap.size w w' := by
  have hcv := Lib.run_convert_bytes_const (P := Try.prog) w 35 5 #[.int .u8 97, .int .u8 98] 2 2 Try.underlying35 Try.underlying5
  have hEu := (EqN.new w [97#8, 98#8] #[.int .u8 97, .int .u8 98] 5 (2, 3) w.heap.size rfl 2 2 rfl (Nat.le_refl _) (by decide) (by kernel_rfl)).alloc (.cells #[.int .i64 1, .int .i64 3, .int .u64 7, .int .u64 9, .int .i64 2, .slice (some ⟨w.heap.size, 0, none⟩) 2 2, .int .i64 0, .int .u64 0] 83)
  go_enter Try.func67, Try.ntmps67
  go_upto_region 2 with (fail)
  clear hcv
  have hb1 : Below w.heap.size w ((w.alloc (.cells #[.int .u8 97, .int .u8 98] 5 (2, 3))).alloc (.cells #[.int .i64 1, .int .i64 3, .int .u64 7, .int .u64 9, .int .i64 2, .slice (some ⟨w.heap.size, 0, none⟩) 2 2, .int .i64 0, .int .u64 0] 83)) := ((Below.refl _ _).alloc (Nat.le_refl _) _).alloc (by rw [size_alloc]; omega) _
  have hg1 := heap_new (w.alloc (.cells #[.int .u8 97, .int .u8 98] 5 (2, 3))) (.cells #[.int .i64 1, .int .i64 3, .int .u64 7, .int .u64 9, .int .i64 2, .slice (some ⟨w.heap.size, 0, none⟩) 2 2, .int .i64 0, .int .u64 0] 83) (w.heap.size + 1) (size_alloc _ _).symm
  obtain ⟨W1, hW1⟩ : ∃ W, (w.alloc (.cells #[.int .u8 97, .int .u8 98] 5 (2, 3))).alloc (.cells #[.int .i64 1, .int .i64 3, .int .u64 7, .int .u64 9, .int .i64 2, .slice (some ⟨w.heap.size, 0, none⟩) 2 2, .int .i64 0, .int .u64 0] 83) = W := ⟨_, rfl⟩
  rw [hW1] at hb1 hg1 hEu ⊢
  obtain ⟨u0, hu0⟩ : ∃ u, Value.slice (some ⟨w.heap.size, 0, none⟩) 2 2 = u := ⟨_, rfl⟩
  rw [hu0] at hg1 hEu ⊢
  have hfv := f0_v u0
  obtain ⟨FC, hFC⟩ : ∃ F : Array Value, #[.int .i64 1, .int .i64 3, .int .u64 7, .int .u64 9, .int .i64 2, u0, .int .i64 0, .int .u64 0] = F := ⟨_, rfl⟩
  rw [hFC] at hg1 hfv ⊢
  obtain ⟨g1, hgg⟩ : ∃ g, w.heap.size + 1 = g := ⟨_, rfl⟩
  rw [hgg] at hg1 ⊢
  have HFV := Lib.hid hfv
  have HS83 := Lib.hid (show (Try.prog.info? 83).map (·.size) = some FC.size by rw [← hFC]; kernel_rfl)
  have HG1 := Lib.hid hg1
  have HB1 := Lib.hid hb1
  have HEU := Lib.hid hEu
  have hcv2 := Lib.run_convert_bytes_const (P := Try.prog) W1 35 5 #[.int .u8 107, .int .u8 101, .int .u8 121] 3 3 Try.underlying35 Try.underlying5
  have hEk := EqN.new W1 key0 #[.int .u8 107, .int .u8 101, .int .u8 121] 5 (3, 4) W1.heap.size rfl 3 3 rfl (Nat.le_refl _) (by decide) (by kernel_rfl)
  have b2 := below_alloc1 W1 (.cells #[.int .u8 107, .int .u8 101, .int .u8 121] 5 (3, 4))
  have S := Lib.hid (fSeal_any key0 _ f0 u0 _ hEk (by decide) (hEu.below b2))
  rw [hfv, show okE f0 = 0 by unfold okE; rw [if_pos f0_ok]] at S
  have HX2 := Lib.hid (keepH b2 hg1)
  have B2 := Lib.hid (hb1.trans (b2.mono hb1.size))
  have E2 := Lib.hid (hEu.below b2)
  clear hW1 hu0 hFC hgg hb1 hg1 hEu hfv hEk b2
  go_wp2_with (first | ((with_reducible show wpList _ _ _ (⟨some 13, .load 83 (.tmp 1), _, _, _, _⟩ :: _) _ _); refine wpList_load_cells rfl 83 (.tmp 1) rfl ⟨g1, 0, none⟩ rfl FC _ rfl (fun j v hj => by rw [add_zero_off, Joins.cell_of_block HX2.out]; exact hj) Try.underlying83 HS83.out ?_) | fail)
  refine S.out.mono ?_
  rintro e w3 ⟨v, rfl, hown, hb3⟩
  have X3 := Lib.hid (keepH hb3 HX2.out)
  have B3 := Lib.hid (B2.out.trans (hb3.mono B2.out.size))
  have E3 := Lib.hid (E2.out.below hb3)
  have hsb := hown.eqn
  have hcv3 := Lib.run_convert_bytes_const (P := Try.prog) w3 35 5 #[.int .u8 107, .int .u8 101, .int .u8 121] 3 3 Try.underlying35 Try.underlying5
  have hEk := EqN.new w3 key0 #[.int .u8 107, .int .u8 101, .int .u8 121] 5 (3, 4) w3.heap.size rfl 3 3 rfl (Nat.le_refl _) (by decide) (by kernel_rfl)
  have b4 := below_alloc1 w3 (.cells #[.int .u8 107, .int .u8 101, .int .u8 121] 5 (3, 4))
  have O := Lib.hid (fOpen_any key0 _ (sealB key0 f0) v _ hEk (by decide) (hsb.below b4) (by have := sealB_len key0 f0; omega))
  rw [op_seal key0 f0 f0_ok] at O
  have X4 := Lib.hid (keepH b4 X3.out)
  have B4 := Lib.hid (B3.out.trans (b4.mono B3.out.size))
  have E4 := Lib.hid (E3.out.below b4)
  clear hb3 hown hsb hEk b4 hcv2 S HX2 B2 E2 X3 B3 E3
  go_wp2_with fail
  refine O.out.mono ?_
  rintro e w5 ⟨u5, rfl, hE5, hb5⟩
  have X5 := Lib.hid (keepH hb5 X4.out)
  have B5 := Lib.hid (B4.out.trans (hb5.mono B4.out.size))
  have E5 := Lib.hid (E4.out.below hb5)
  have H5 := Lib.hid (show EqN w5 [97#8, 98#8] u5 from hE5)
  obtain ⟨A5, c5, hu5, _, _, _⟩ := hE5
  have hu5 : u5 = .slice A5 2 c5 := hu5
  subst hu5
  rw [f0_v]
  clear hb5 hcv3 O X4 B4 E4
  have M := Lib.hid (show ∀ w', Calls Try.prog 70 #[.int .u64 9, .int .u64 7, .int .i64 2, .agg #[.int .i64 1, .int .i64 3, .int .u64 7, .int .u64 9, .int .i64 2, .slice A5 2 c5, .int .i64 0, .int .u64 0]] w' fun e w'' => e = .returned (.agg #[.bool false, .bool false, .bool true, .int .i64 3, .bool true]) ∧ Below w'.heap.size w' w'' from fun w' => by
    have h := meet_any 9#64 7#64 2 f0 (.slice A5 2 c5) w'
    rw [f0_v] at h
    exact h)
  have x6 := keepH (below_alloc1 w5 (.cells #[.int .i64 1, .int .i64 3, .int .u64 7, .int .u64 9, .int .i64 2, .slice A5 2 c5, .int .i64 0, .int .u64 0] 83)) X5.out
  have y6 := heap_new w5 (.cells #[.int .i64 1, .int .i64 3, .int .u64 7, .int .u64 9, .int .i64 2, .slice A5 2 c5, .int .i64 0, .int .u64 0] 83) w5.heap.size rfl
  have b6 := below_alloc1 w5 (.cells #[.int .i64 1, .int .i64 3, .int .u64 7, .int .u64 9, .int .i64 2, .slice A5 2 c5, .int .i64 0, .int .u64 0] 83)
  have X6 := Lib.hid x6
  have Y6 := Lib.hid y6
  have B6 := Lib.hid (B5.out.trans (b6.mono B5.out.size))
  have E6 := Lib.hid (E5.out.below b6)
  have H6 := Lib.hid (H5.out.below b6)
  clear x6 y6 b6 X5 B5 E5 H5
  go_wp2_with fail
  refine (M.out _).mono ?_
  rintro e w7 ⟨rfl, hb7⟩
  have x7 := keepH hb7 X6.out
  have y7 := keepH hb7 Y6.out
  have b7 := B6.out.trans (hb7.mono B6.out.size)
  have e7 := E6.out.below hb7
  have h7 := H6.out.below hb7
  have bm := below_alloc1 w7 (.cells #[.bool false, .bool false, .bool true, .int .i64 3, .bool true] 92)
  have X8 := Lib.hid (keepH bm x7)
  have Y8 := Lib.hid (keepH bm y7)
  have B8 := Lib.hid (b7.trans (bm.mono b7.size))
  have S8 := fsame_any f0 f0 u0 (.slice A5 2 c5) _ (e7.below bm) (h7.below bm)
  rw [HFV.out, f0_v, (sameF_iff f0 f0).2 rfl] at S8
  have HS8 := Lib.hid S8
  have HSL := Lib.hid (show (Try.prog.info? 83).map (·.size) = some (#[.int .i64 1, .int .i64 3, .int .u64 7, .int .u64 9, .int .i64 2, .slice A5 2 c5, .int .i64 0, .int .u64 0] : Array Value).size by kernel_rfl)
  have Z8 := Lib.hid (heap_new w7 (.cells #[.bool false, .bool false, .bool true, .int .i64 3, .bool true] 92) w7.heap.size rfl)
  clear x7 y7 b7 e7 h7 hb7 X6 Y6 B6 E6 H6 M bm S8
  go_wp2_with (first | ((with_reducible show wpList _ _ _ (⟨some 33, .load 83 (.tmp 1), _, _, _, _⟩ :: _) _ _); refine Go.BigFrame.wpList_want (by kernel_rfl) fun K hK => wp_load_cells 83 (.tmp 1) rfl ⟨g1, 0, none⟩ rfl FC _ rfl (fun j v hj => by rw [add_zero_off, Joins.cell_of_block X8.out]; exact hj) Try.underlying83 HS83.out (hK _ _ ?_); simp only [Act.put, List.setIfInBounds_toArray, List.set_cons_zero, List.set_cons_succ]; clear hK) | ((with_reducible show wpList _ _ _ (⟨some 34, .load 83 (.tmp 4), _, _, _, _⟩ :: _) _ _); refine Go.BigFrame.wpList_want (by kernel_rfl) fun K hK => wp_load_cells 83 (.tmp 4) rfl ⟨w5.heap.size, 0, none⟩ rfl #[.int .i64 1, .int .i64 3, .int .u64 7, .int .u64 9, .int .i64 2, .slice A5 2 c5, .int .i64 0, .int .u64 0] _ rfl (fun j v hj => by rw [add_zero_off, Joins.cell_of_block Y8.out]; exact hj) Try.underlying83 HSL.out (hK _ _ ?_); simp only [Act.put, List.setIfInBounds_toArray, List.set_cons_zero, List.set_cons_succ]; clear hK) | fail)
  refine HS8.out.mono ?_
  rintro e w9 ⟨rfl, hb9⟩
  have Z9 := Lib.hid (keepH hb9 Z8.out)
  have B9 := Lib.hid (B8.out.trans (hb9.mono B8.out.size))
  have HSM := Lib.hid (show (Try.prog.info? 92).map (·.size) = some (#[.bool false, .bool false, .bool true, .int .i64 3, .bool true] : Array Value).size by kernel_rfl)
  clear hb9 HS8 Z8 B8 X8 Y8
  go_wp2_with (first | ((with_reducible show wpList _ _ _ (⟨some 38, .load 92 (.tmp 6), _, _, _, _⟩ :: _) _ _); refine Go.BigFrame.wpList_want (by kernel_rfl) fun K hK => wp_load_cells 92 (.tmp 6) rfl ⟨w7.heap.size, 0, none⟩ rfl #[.bool false, .bool false, .bool true, .int .i64 3, .bool true] _ rfl (fun j v hj => by rw [add_zero_off, Joins.cell_of_block Z9.out]; exact hj) Try.underlying92 HSM.out (hK _ _ ?_); simp only [Act.put, List.setIfInBounds_toArray, List.set_cons_zero, List.set_cons_succ]; clear hK) | fail)
  go_ret
  exact ⟨rfl, B9.out⟩
end Go.Proofs.Ytjaakhjfpigdfaa
