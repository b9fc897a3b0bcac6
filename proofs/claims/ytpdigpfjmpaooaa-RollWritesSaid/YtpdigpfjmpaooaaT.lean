import Derived.Test.YtpdigpfjmpaooaaS
/-! The document's Split. -/
namespace Go.Proofs.Ytpdigpfjmpaooaa
open Go.RowKit
set_option linter.unusedVariables false
set_option linter.unusedSimpArgs false
theorem oneS (v : Value) (hv : ∃ A n c, v = .slice A n c) : ∀ u ∈ [v], u.oneCell' = true := by
  obtain ⟨A, n, c, rfl⟩ := hv
  intro u hu
  simp only [List.mem_cons, List.not_mem_nil, or_false] at hu
  subst hu; rfl
set_option maxRecDepth 100000 in
set_option maxHeartbeats 4000000 in
theorem rsplit_ok (le mo bi : Int) (l : List (BitVec 8)) (A : Option Addr) (cap : Nat) (w : World) (hok : okC le mo bi) (hr : RdB w A l) (hl : l.length ≤ cap) (hs : l.length ≤ 1048576) :
    Calls Try.prog 23 #[confV le mo bi, .slice A l.length cap] w fun e w' => ∃ v, e = .returned v ∧ OwnP w' w.heap.size v (pieces le mo bi l) ∧ Below w.heap.size w w' := by
  obtain ⟨i0, hi, hz0, hz1, hz2⟩ := info_parts info24
  have Hok := Lib.hid hok
  have b0 : Below w.heap.size w (w.alloc (confO le mo bi)) := (Below.refl _ _).alloc (Nat.le_refl _) _
  have CU := Lib.hid (rcuts_ok le mo bi l A cap (w.alloc (confO le mo bi)) hok (RdB.alloc' hr _) hl hs)
  obtain ⟨V, hV⟩ : ∃ V, cutsL le mo bi l = V := ⟨_, rfl⟩
  obtain ⟨T, hT⟩ : ∃ T, pieces le mo bi l = T := ⟨_, rfl⟩
  rw [hV] at CU
  rw [hT]
  have HR := Lib.hid hr
  have HV := Lib.hid hV
  have HT := Lib.hid hT
  clear hok hr hV hT
  go_enter Try.func23, Try.ntmps23
  go_wp2_with (go_at_call 14; refine CU.out.mono ?_; rintro e w1 ⟨v, rfl, own, b1⟩; obtain ⟨BV, cv, rfl, hcv, rdv⟩ := RdI.own own)
  have bw1 : Below w.heap.size w w1 := b0.trans (b1.mono b0.size)
  have HRV := Lib.hid rdv
  have HOV := Lib.hid own
  have hVm := rdv.1
  have s1 := bw1.size
  clear b1 own rdv CU b0
  go_loopw [1, 5, 8] (fun b v i wr => ∃ (k : Nat) (B : Option Addr) (r : List (BitVec 8)) (c : Nat) (p : List (List (BitVec 8))), k ≤ V.length ∧ i = .int .i64 k ∧ b = .slice B r.length c ∧ r.length ≤ c ∧ RdB w B r ∧ r.length + p.length ≤ 1048576 ∧ V.drop k = cutsL le mo bi r ∧ p ++ pieces le mo bi r = T ∧ OwnP wr w1.heap.size v p ∧ Below w1.heap.size w1 wr) (fun _ _ i _ => V.length - (intOf i).toNat)
  case atStart => exact ⟨0, A, l, cap, [], Nat.zero_le _, rfl, rfl, hl, HR.out, by simpa using hs, by rw [HV.out]; rfl, by simpa using HT.out, OwnP.nil _ _, Below.refl _ _⟩
  case round =>
    obtain ⟨k, B, r, c, p, hk, rfl, rfl, hrc, hrd0, hrp, hdr, hpt, hown, hbel⟩ := hrel
    have hsw := hbel.size
    have bw : Below w.heap.size w wr := bw1.trans (hbel.mono s1)
    have hsww := bw.size
    by_cases hlt : k < V.length
    · have hdk : V.drop k = V[k] :: V.drop (k + 1) := List.drop_eq_getElem_cons hlt
      have hr0 : 0 < r.length := by
        rcases Nat.eq_zero_or_pos r.length with h0 | h0
        · obtain rfl := List.eq_nil_of_length_eq_zero h0
          rw [cutsL_nil, hdk] at hdr; cases hdr
        · exact h0
      have hcons := cutsL_cons le mo bi Hok.out r hr0
      have hpos := nextL_pos le mo bi Hok.out r hr0
      rw [pieces_cons le mo bi Hok.out r hr0] at hpt
      rw [hdk, hcons] at hdr
      obtain ⟨hn, hd2⟩ := List.cons.inj hdr
      obtain ⟨vd, va, hvA, hva, rfl⟩ := (RdR.below (R' := fun (x : Nat) v => v = Value.int .i64 ((x : Nat) : Int)) HRV.out hbel (fun _ _ h => h)).2 k hlt
      rw [hn] at hva
      have HVN := Lib.hid hn
      generalize (nextL le mo bi r 0 0).1 = n at *
      obtain ⟨rd, hBa, _⟩ := RdB.at' hrd0 0 hr0
      subst hBa hvA
      have hrd : RdB wr (some rd) r := RdR.below (R' := EqB) hrd0 bw (fun _ _ h => h)
      have tk := hrd.take n
      have hdrop := hrd0.drop n c hpos.2 hrc
      have hlt2 : (r.take n).length = n := by rw [List.length_take]; omega
      have hld : (r.drop n).length = r.length - n := List.length_drop
      obtain ⟨q, hq⟩ : ∃ q, r.take n = q := ⟨_, rfl⟩
      obtain ⟨r', hr'⟩ : ∃ q, r.drop n = q := ⟨_, rfl⟩
      rw [hq] at hlt2 tk hpt
      rw [hr'] at hld hdrop hpt hd2
      have HQ := Lib.hid hlt2
      have HL := Lib.hid hld
      have HP := Lib.hid hpt
      have HD := Lib.hid hd2
      have HDR := Lib.hid hdrop
      have HO := Lib.hid hown
      have hqn : q.length ≤ n := by omega
      obtain ⟨n1, n2⟩ := hpos
      have hrm := hrd0.1
      clear hlt2 hld hpt hd2 hdr hdk hdrop hown hq hr' hrd hcons hn
      have hnc : (n : Int) ≤ c := by omega
      have hnr : (n : Int) ≤ r.length := by omega
      have hva2 : (wr.alloc (.cells #[] 5)).cell? (vd.add k) = some (.int .i64 (n : Int)) := cell_old _ hva
      go_wp2_with (first | (at_builtin; refine wpList_append_bytes rfl (.tmp 22) (.tmp 28) rfl wr.heap.size (.slice (some ⟨wr.heap.size, 0, none⟩) 0 0) 0 [] rfl (own_empty wr 5 1) (some rd) c q (by rw [HQ.out]; rfl) (RdB.alloc' tk _) (fun h => by cases h) (by omega) (by omega) (by simp) ?_; intro u w2 ownu growu nnu; have b2 : Below wr.heap.size wr w2 := ((Below.refl _ _).alloc (Nat.le_refl _) _).grown growu (by simp) (own_base' (own_empty wr 5 1)); have nu := nnu (by simp); clear nnu growu; rw [Nat.zero_add, List.nil_append] at ownu; obtain ⟨gu, cu, hu, hgu⟩ := own_form ownu nu; subst hu; have z2 := b2.size; have b3 : Below wr.heap.size wr (w2.alloc (.cells #[Value.slice (some ⟨gu, 0, none⟩) q.length cu] 24)) := b2.alloc b2.size _; obtain ⟨vs, hv, hp⟩ := HO.out.below b3; have hq : (w2.alloc (.cells #[Value.slice (some ⟨gu, 0, none⟩) q.length cu] 24)).ownsRow w1.heap.size 5 1 (.slice (some ⟨gu, 0, none⟩) q.length cu) q.length (bytesV q) := own_mono (own_below ownu ((Below.refl _ _).alloc (Nat.le_refl _) _)) (by omega)) | (at_builtin; go_loud (refine wpList_append_own _ rfl (.tmp 21) (.tmp 30) 42 rfl w1.heap.size 24 i0 (.slice none 0 0) 1 24 Try.underlying42 hi hz0 hz1 hz2 rfl (by decide) _ p.length vs rfl hv ⟨w2.heap.size, 0, none⟩ 1 1 [Value.slice (some ⟨gu, 0, none⟩) q.length cu] rfl rfl (cell_one_new _ _ _) (oneS _ ⟨_, _, _, rfl⟩) (by unfold maxLen; omega) (by omega) (by simp; omega) ?_; intro v2 w4 own4 grow4 _; have b4 : Below w1.heap.size w1 (w2.alloc (.cells #[Value.slice (some ⟨gu, 0, none⟩) q.length cu] 24)) := hbel.trans (b3.mono hsw); have hvO := own_below HOV.out b4; have ow4 := hvO.kept grow4 (own_ne hvO hv (by decide)); obtain ⟨BV', cv', e', _, rdv4⟩ := RdI.own ow4; cases e'; obtain ⟨vd', va', e1, hva4, e2⟩ := rdv4.2 k hlt; cases e1; rw [e2, HVN.out] at hva4; obtain ⟨g4, c4, hv4⟩ := Joins.ownsRow_form own4 (by omega); subst hv4)))
      have hrow := own_base' hv
      have z4 := b4.size
      have b5 : Below w1.heap.size w1 w4 := b4.grown grow4 b4.size (fun k hk => by have := hrow k hk; omega)
      go_roundw
      case rel => exact ⟨k + 1, _, r', c - n, p ++ [q], by omega, by go_num, by rw [HL.out]; rfl, by rw [HL.out]; omega, HDR.out, by rw [HL.out]; simp; omega, HD.out, by rw [List.append_assoc]; exact HP.out, OwnP.push hv hp hq nu grow4 own4, b5⟩
      case measure => simp [intOf]; omega
    · go_wp2
      go_ret
      have hr0 : r = [] := by
        rcases Nat.eq_zero_or_pos r.length with h0 | h0
        · exact List.eq_nil_of_length_eq_zero h0
        · rw [cutsL_cons le mo bi Hok.out r h0, List.drop_eq_nil_of_le (by omega)] at hdr; cases hdr
      rw [hr0, pieces_nil, List.append_nil] at hpt
      exact ⟨_, rfl, by rw [← hpt]; exact hown.mono (by omega), bw⟩
end Go.Proofs.Ytpdigpfjmpaooaa
