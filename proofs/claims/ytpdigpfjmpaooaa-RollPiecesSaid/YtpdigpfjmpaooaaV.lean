import Derived.Test.YtpdigpfjmpaooaaU
/-! RollPieces. -/
namespace Go.Proofs.Ytpdigpfjmpaooaa
open Go.RowKit
set_option linter.unusedVariables false
set_option linter.unusedSimpArgs false
set_option maxRecDepth 100000 in
set_option maxHeartbeats 4000000 in
theorem rollPieces_any (le mo bi : Int) (al : List (BitVec 8)) (A : Option Addr) (ca : Nat) (bl : List (BitVec 8)) (B : Option Addr) (cb : Nat) (w : World) (_h1 : I64 le) (_h2 : I64 mo) (_h3 : I64 bi)
    (hra : RdB w A al) (hla : al.length ≤ ca) (_hsa : al.length * 1 ≤ 140737488351232) (hna : A = none → ca = 0) (hrb : RdB w B bl) (hlb : bl.length ≤ cb) (_hsb : bl.length * 1 ≤ 140737488351232) (hnb : B = none → cb = 0) :
    Calls Try.prog 6 #[confV le mo bi, .slice A al.length ca, .slice B bl.length cb] w fun e w' => e = .returned (.bool true) ∧ Below w.heap.size w w' := by
  have b0 : Below w.heap.size w (w.alloc (confO le mo bi)) := (Below.refl _ _).alloc (Nat.le_refl _) _
  by_cases hok : okC le mo bi
  · obtain ⟨i0, hi, hz0, hz1, hz2⟩ := info_parts info24
    have CUTA := Lib.hid (fun w => cut_any al A ca w hla hra.1)
    have ra2 := hra.take 8192
    have la2 : (al.take 8192).length ≤ 8192 ∧ (al.take 8192).length ≤ ca := by rw [List.length_take]; omega
    generalize al.take 8192 = a at *
    have RA := Lib.hid (fun (W : World) (h : Below w.heap.size w W) => (RdR.below (R' := EqB) ra2 h (fun _ _ h => h) : RdB W A a))
    have RB := Lib.hid hrb
    have hbm := hrb.1
    have NEW := Lib.hid (fun w => new_ok le mo bi w hok)
    have WR := Lib.hid (write_w le mo bi hok)
    have CLOSE := Lib.hid (fun g L w => close_yes g le mo bi L w hok)
    have SPLIT := Lib.hid (fun w hr => rsplit_ok le mo bi a A ca w hok hr la2.2 (by omega))
    have RA0 := Lib.hid ra2
    have Hok := Lib.hid hok
    clear hra hrb hla hlb _hsa _hsb ra2 _h1 _h2 _h3 hok
    go_enter Try.func6, Try.ntmps6
    go_upto_region 4 with (first | (go_at_call 15; refine (awake_any _).mono ?_; rintro e w1 ⟨rfl, ba⟩; have b1 := b0.trans (ba.mono b0.size); have d0 := keepB ba (show (w.alloc (confO le mo bi)).cell? ⟨w.heap.size, 0, none⟩ = some (.int .i64 le) by simp [go_sem]); have d1 := keepB ba (show (w.alloc (confO le mo bi)).cell? ⟨w.heap.size, 1, none⟩ = some (.int .i64 mo) by simp [go_sem]); have d2 := keepB ba (show (w.alloc (confO le mo bi)).cell? ⟨w.heap.size, 2, none⟩ = some (.int .i64 bi) by simp [go_sem])) | (go_at_call 22; refine (NEW.out _).mono ?_; rintro e w2 ⟨g, rfl, cut, z1, s1, bn1⟩; have f0 := keepB bn1 d0; have f1 := keepB bn1 d1; have f2 := keepB bn1 d2; replace s1 := Lib.hid s1))
    have b2 : Below w.heap.size w w2 := b1.trans (bn1.mono b1.size)
    have hg : w.heap.size ≤ g := by have := b1.size; omega
    have hg2 : g < w2.heap.size := by rw [s1.out]; omega
    clear ba b1 bn1 s1 z1 d0 d1 d2
    go_upto_region 8 with (first | (go_at_call 10; with_reducible refine (CUTA.out _).mono ?_; rintro e w' ⟨rfl, rfl⟩) | (go_at_call 23; refine (SPLIT.out _ (RA.out _ b2)).mono ?_; rintro e ws ⟨v9, rfl, o9, bs⟩))
    have bw : Below w.heap.size w ws := b2.trans (bs.mono b2.size)
    have cut := cut.below bs
    have hgs : g < ws.heap.size := by have := bs.size; omega
    obtain ⟨T, hT⟩ : ∃ T, pieces le mo bi a = T := ⟨_, rfl⟩
    rw [hT] at o9
    have HT := Lib.hid hT
    have O9 := Lib.hid o9
    clear SPLIT f0 f1 f2 bs hT o9
    go_upto_region 8 with fail
    go_wp2
    go_loopw [1, 10, 11] (fun t p i wr => ∃ (k : Nat) (D : Option Addr) (r : List (BitVec 8)) (c : Nat) (L : List (BitVec 8)) (ps : List (List (BitVec 8))), k ≤ bl.length ∧ k ≤ 300 ∧ i = .int .i64 k ∧ t = .slice D r.length c ∧ r.length ≤ c ∧ (D = none → c = 0) ∧ RdB w D r ∧ L.length + r.length + ps.length ≤ 8192 ∧ ps ++ pieces le mo bi (L ++ r) = T ∧ OwnP wr ws.heap.size p ps ∧ CutAt wr g le mo bi L ∧ Besides [g] ws wr) (fun _ _ i _ => 301 - (intOf i).toNat)
    case atStart => exact ⟨0, A, a, ca, [], [], Nat.zero_le _, Nat.zero_le _, rfl, rfl, la2.2, hna, RA0.out, by simp; omega, by simpa using HT.out, OwnP.nil _ _, cut, Besides.refl _ _⟩
    case round =>
      obtain ⟨k, D, r, c, L, ps, hk, hk3, rfl, rfl, hrc, hnil, hrd0, hsz, hpt, hown, hcut, hbes⟩ := hrel
      have hsw := hbes.size
      have bwr : Below w.heap.size w wr := bw.trans (hbes.to_below (by simp; omega) bw.size)
      by_cases hlt : k < bl.length
      · by_cases hlt3 : k < 300
        · obtain ⟨bd, hB, hx⟩ := RdB.at' (RdR.below (R' := EqB) RB.out bwr (fun _ _ h => h)) k hlt
          subst hB
          generalize bl[k] = X at *
          have hX := X.isLt
          generalize X.toNat = x at *
          obtain ⟨n, hn⟩ : ∃ n, min x r.length = n := ⟨_, rfl⟩
          have hn1 : n ≤ r.length := by omega
          have hn2 : min (x : Int) (r.length : Int) = (n : Int) := by omega
          have hlt' : (k : Int) < bl.length := by omega
          have hlt3' : (k : Int) < 300 := by omega
          have hrm := hrd0.1
          clear hn
          go_upto_region 13 with fail
          have hmin : (if r.length < x then (r.length : Int) else (x : Int)) = (n : Int) := by split <;> omega
          rw [hmin]
          clear hmin hn2
          have hrdw : RdB wr D r := RdR.below (R' := EqB) hrd0 bwr (fun _ _ h => h)
          have htk := hrdw.take n
          have hdrop := hrd0.drop n c hn1 hrc
          have hlt2 : (r.take n).length = n := by rw [List.length_take]; omega
          have hld : (r.drop n).length = r.length - n := List.length_drop
          have htd : r.take n ++ r.drop n = r := List.take_append_drop n r
          obtain ⟨q, hq⟩ : ∃ q, r.take n = q := ⟨_, rfl⟩
          obtain ⟨r', hr'⟩ : ∃ q, r.drop n = q := ⟨_, rfl⟩
          rw [hq] at hlt2 htk htd
          rw [hr'] at hld hdrop htd
          have hsp := splitE_pieces le mo bi Hok.out (L ++ q) r'
          have hle := splitE_le le mo bi Hok.out (L ++ q)
          have WRQ := WR.out g L q D c wr hcut htk hnil (by omega) (by omega)
          obtain ⟨⟨S1, S2⟩, hS⟩ : ∃ S, splitE le mo bi (L ++ q) = S := ⟨_, rfl⟩
          rw [hS] at hsp hle WRQ
          simp only [] at hsp hle WRQ
          rw [List.append_assoc, htd] at hsp
          rw [hsp] at hpt
          rw [List.length_append] at hle
          rw [hlt2] at WRQ
          have hsz2 : S2.length + r'.length + (ps.length + S1.length) ≤ 8192 := by omega
          have hl3 : r'.length ≤ c - n := by omega
          have HL := Lib.hid hld
          have HPT := Lib.hid hpt
          have HO := Lib.hid hown
          have HD := Lib.hid hdrop
          replace WRQ := Lib.hid WRQ
          have hnc : (n : Int) ≤ c := by omega
          have hnr : (n : Int) ≤ r.length := by omega
          have hcm : ps.length + S1.length ≤ 8192 := by omega
          have hnil2 : (if c = n then D else D.map (fun x => x.add n)) = none → c - n = 0 := by
            cases D with
            | none => intro _; have := hnil rfl; omega
            | some d => intro h; split at h <;> cases h
          clear hq hr' hlt2 hld htd hS hsp hle hpt hdrop hown hrd0 hrdw htk hsz
          go_upto_region 14 with (go_at_call 24; refine WRQ.out.mono ?_; rintro e w4 ⟨v13, rfl, o13, cut4, bes4⟩)
          have o4 := HO.out.besides bes4 (by simp; omega)
          have o13 := o13.mono hsw
          have bes := hbes.trans bes4
          have z4 := bes.size
          clear WRQ hbes bes4 HO hcut
          go_wp2_with (at_builtin; refine wpList_append_rows rfl (.tmp 73) (.tmp 74) rfl ws.heap.size _ v13 ps S1 rfl o4 rfl o13 (by omega) (by omega) ?_; intro v6 w6 o6 grow6)
          have bes6 := bes.grown grow6 (fun k hk => by obtain ⟨h1, c, fz, h2⟩ := o4.kinds k hk; exact ⟨h1, c, _, fz, h2⟩)
          have cut6 := cut4.grown grow6 (fun k hk => (o4.kinds k hk).2)
          go_roundw
          case rel => exact ⟨k + 1, _, r', c - n, S2, ps ++ S1, by omega, by omega, by go_num, by rw [HL.out], hl3, hnil2, HD.out, by rw [List.length_append]; exact hsz2, by rw [List.append_assoc]; exact HPT.out, o6, cut6, bes6⟩
          case measure => simp [intOf]; omega
        · have hlt3' : ¬ ((k : Int) < 300) := by omega
          have hlt' : (k : Int) < bl.length := by omega
          have hrdw : RdB wr D r := RdR.below (R' := EqB) hrd0 bwr (fun _ _ h => h)
          have hsp := splitE_pieces le mo bi Hok.out (L ++ r) []
          have hle := splitE_le le mo bi Hok.out (L ++ r)
          have hfl := splitE_false le mo bi Hok.out (L ++ r)
          have WRQ := WR.out g L r D c wr hcut hrdw hnil hrc (by omega)
          rw [List.append_nil] at hsp
          obtain ⟨⟨S1, S2⟩, hS⟩ : ∃ S, splitE le mo bi (L ++ r) = S := ⟨_, rfl⟩
          rw [hS] at hsp hle hfl WRQ
          simp only [List.append_nil] at hsp hle hfl WRQ
          rw [hsp] at hpt
          rw [List.length_append] at hle
          have HPT := Lib.hid hpt
          have HFL := Lib.hid hfl
          have HO := Lib.hid hown
          replace WRQ := Lib.hid WRQ
          clear hS hsp hfl hpt hrd0 hrdw hown
          go_upto_region 19 with (go_at_call 24; refine WRQ.out.mono ?_; rintro e w4 ⟨v15, rfl, o15, cut4, bes4⟩)
          have o4 := HO.out.besides bes4 (by simp; omega)
          have o15 := o15.mono hsw
          have bes := hbes.trans bes4
          clear WRQ hbes bes4 HO
          have CL := Lib.hid (CLOSE.out g S2 w4 cut4)
          go_upto_region 20 with (go_at_call 25; refine CL.out.mono ?_; rintro e w5 ⟨u, rfl, q5, cut5, bes5⟩)
          have o5 := o4.besides bes5 (by simp; omega)
          have o15 := o15.besides bes5 (by simp; omega)
          have bes := bes.trans bes5
          have z5 := bes.size
          clear CL cut4 cut5 bes5 o4
          go_upto_region 21 with (at_builtin; refine wpList_append_rows rfl (.tmp 90) (.tmp 91) rfl ws.heap.size _ v15 ps S1 rfl o5 rfl o15 (by omega) (by omega) ?_; intro v6 w6 o6 grow6)
          have bes6 := bes.grown grow6 (fun k hk => by obtain ⟨h1, c, fz, h2⟩ := o5.kinds k hk; exact ⟨h1, c, _, fz, h2⟩)
          have q6 : w6.ownsRow (g + 1) 5 1 u S2.length (bytesV S2) := by
            obtain ⟨vs, h1, _⟩ := o5
            exact q5.kept grow6 (own_ne q5 h1 (by decide))
          have z6 := bes6.size
          clear bes o5 o15 grow6 q5
          by_cases hS0 : S2.length = 0
          · obtain rfl := List.eq_nil_of_length_eq_zero hS0
            have hT2 : ps ++ S1 = T := by rw [← HPT.out, pieces_nil, List.append_nil]
            rw [hT2] at o6
            obtain ⟨B1, d1, rfl, t1, _, _⟩ := own_bytes q6
            obtain ⟨A1, c1, rfl, r1, _, p1⟩ := o6.read
            obtain ⟨A2, c2, rfl, r2, _, p2⟩ := (O9.out.besides bes6 (by simp; omega)).read
            have SAME := Lib.hid (same_yes T A1 A2 c1 c2 w6 p1 p2 r1 r2)
            have bl6 : Below w.heap.size w w6 := bw.trans (bes6.to_below (by simp; omega) bw.size)
            clear o6 p1 p2 q6 O9 bes6 hS0 hT2 HPT HFL
            go_wp2_with (go_at_call 26; refine SAME.out.mono ?_; rintro e w7 ⟨rfl, b7⟩)
            go_ret
            exact ⟨rfl, bl6.trans (b7.mono bl6.size)⟩
          · have hT2 : (ps ++ S1) ++ [S2] = T := by rw [← HPT.out, pieces_one le mo bi Hok.out S2 HFL.out (by omega), List.append_assoc]
            have nu : u ≠ .slice none 0 0 := fun e => by
              subst e
              rcases q6.2 with ⟨_, h0⟩ | ⟨_, _, _, h0, _⟩
              · exact hS0 h0
              · cases h0
            obtain ⟨gu, cu, hu, hgu⟩ := own_form q6 nu
            subst hu
            have hS1 : (0 : Int) < (S2.length : Int) := by omega
            have ba6 : Below w6.heap.size w6 (w6.alloc (.cells #[Value.slice (some ⟨gu, 0, none⟩) S2.length cu] 24)) := (Below.refl _ _).alloc (Nat.le_refl _) _
            obtain ⟨vs, hv, hp⟩ := (o6.mono (show g + 1 ≤ ws.heap.size by omega)).below ba6
            have hq := own_below q6 ba6
            have hk6 := o6.kinds
            have hpl : (ps ++ S1).length = ps.length + S1.length := List.length_append
            obtain ⟨P, hP⟩ : ∃ P, ps ++ S1 = P := ⟨_, rfl⟩
            rw [hP] at hv hp hpl hT2 o6
            have HPL := Lib.hid hpl
            have hpl1 : P.length ≤ 8192 := by omega
            have HT2 := Lib.hid hT2
            clear hS0 hP hpl hT2 HPT HFL
            go_upto_region 23 with (at_builtin; go_loud (refine wpList_append_own _ rfl (.tmp 96) (.tmp 98) 42 rfl (g + 1) 24 i0 (.slice none 0 0) 1 24 Try.underlying42 hi hz0 hz1 hz2 rfl (by decide) _ P.length vs rfl hv ⟨w6.heap.size, 0, none⟩ 1 1 [Value.slice (some ⟨gu, 0, none⟩) S2.length cu] rfl rfl (cell_one_new _ _ _) (oneS _ ⟨_, _, _, rfl⟩) (by unfold maxLen; omega) (by omega) (by simp; omega) ?_; intro v7 w7 own7 grow7 _))
            have o7 := OwnP.push hv hp hq nu grow7 own7
            rw [HT2.out] at o7
            have bes7 : Besides [g] ws w7 := (bes6.alloc _).grown grow7 (fun k hk => by obtain ⟨h1, c, fz, h2⟩ := hk6 k hk; exact ⟨h1, c, _, fz, heap_old _ trivial h2⟩)
            obtain ⟨A1, c1, hv7, r1, _, p1⟩ := o7.read
            subst hv7
            obtain ⟨A2, c2, rfl, r2, _, p2⟩ := (O9.out.besides bes7 (by simp; omega)).read
            have SAME := Lib.hid (same_yes T A1 A2 c1 c2 w7 p1 p2 r1 r2)
            have bl7 : Below w.heap.size w w7 := bw.trans (bes7.to_below (by simp; omega) bw.size)
            clear o6 o7 p1 p2 q6 O9 bes6 bes7 own7 grow7 hv hp hq hk6 HT2 HPL
            go_wp2_with (go_at_call 26; refine SAME.out.mono ?_; rintro e w8 ⟨rfl, b8⟩)
            go_ret
            exact ⟨rfl, bl7.trans (b8.mono bl7.size)⟩
      · have hlt' : ¬ ((k : Int) < bl.length) := by omega
        have hrdw : RdB wr D r := RdR.below (R' := EqB) hrd0 bwr (fun _ _ h => h)
        have hsp := splitE_pieces le mo bi Hok.out (L ++ r) []
        have hle := splitE_le le mo bi Hok.out (L ++ r)
        have hfl := splitE_false le mo bi Hok.out (L ++ r)
        have WRQ := WR.out g L r D c wr hcut hrdw hnil hrc (by omega)
        rw [List.append_nil] at hsp
        obtain ⟨⟨S1, S2⟩, hS⟩ : ∃ S, splitE le mo bi (L ++ r) = S := ⟨_, rfl⟩
        rw [hS] at hsp hle hfl WRQ
        simp only [List.append_nil] at hsp hle hfl WRQ
        rw [hsp] at hpt
        rw [List.length_append] at hle
        have HPT := Lib.hid hpt
        have HFL := Lib.hid hfl
        have HO := Lib.hid hown
        replace WRQ := Lib.hid WRQ
        clear hS hsp hfl hpt hrd0 hrdw hown
        go_upto_region 19 with (go_at_call 24; refine WRQ.out.mono ?_; rintro e w4 ⟨v15, rfl, o15, cut4, bes4⟩)
        have o4 := HO.out.besides bes4 (by simp; omega)
        have o15 := o15.mono hsw
        have bes := hbes.trans bes4
        clear WRQ hbes bes4 HO
        have CL := Lib.hid (CLOSE.out g S2 w4 cut4)
        go_upto_region 20 with (go_at_call 25; refine CL.out.mono ?_; rintro e w5 ⟨u, rfl, q5, cut5, bes5⟩)
        have o5 := o4.besides bes5 (by simp; omega)
        have o15 := o15.besides bes5 (by simp; omega)
        have bes := bes.trans bes5
        have z5 := bes.size
        clear CL cut4 cut5 bes5 o4
        go_upto_region 21 with (at_builtin; refine wpList_append_rows rfl (.tmp 90) (.tmp 91) rfl ws.heap.size _ v15 ps S1 rfl o5 rfl o15 (by omega) (by omega) ?_; intro v6 w6 o6 grow6)
        have bes6 := bes.grown grow6 (fun k hk => by obtain ⟨h1, c, fz, h2⟩ := o5.kinds k hk; exact ⟨h1, c, _, fz, h2⟩)
        have q6 : w6.ownsRow (g + 1) 5 1 u S2.length (bytesV S2) := by
          obtain ⟨vs, h1, _⟩ := o5
          exact q5.kept grow6 (own_ne q5 h1 (by decide))
        have z6 := bes6.size
        clear bes o5 o15 grow6 q5
        by_cases hS0 : S2.length = 0
        · obtain rfl := List.eq_nil_of_length_eq_zero hS0
          have hT2 : ps ++ S1 = T := by rw [← HPT.out, pieces_nil, List.append_nil]
          rw [hT2] at o6
          obtain ⟨B1, d1, rfl, t1, _, _⟩ := own_bytes q6
          obtain ⟨A1, c1, rfl, r1, _, p1⟩ := o6.read
          obtain ⟨A2, c2, rfl, r2, _, p2⟩ := (O9.out.besides bes6 (by simp; omega)).read
          have SAME := Lib.hid (same_yes T A1 A2 c1 c2 w6 p1 p2 r1 r2)
          have bl6 : Below w.heap.size w w6 := bw.trans (bes6.to_below (by simp; omega) bw.size)
          clear o6 p1 p2 q6 O9 bes6 hS0 hT2 HPT HFL
          go_wp2_with (go_at_call 26; refine SAME.out.mono ?_; rintro e w7 ⟨rfl, b7⟩)
          go_ret
          exact ⟨rfl, bl6.trans (b7.mono bl6.size)⟩
        · have hT2 : (ps ++ S1) ++ [S2] = T := by rw [← HPT.out, pieces_one le mo bi Hok.out S2 HFL.out (by omega), List.append_assoc]
          have nu : u ≠ .slice none 0 0 := fun e => by
            subst e
            rcases q6.2 with ⟨_, h0⟩ | ⟨_, _, _, h0, _⟩
            · exact hS0 h0
            · cases h0
          obtain ⟨gu, cu, hu, hgu⟩ := own_form q6 nu
          subst hu
          have hS1 : (0 : Int) < (S2.length : Int) := by omega
          have ba6 : Below w6.heap.size w6 (w6.alloc (.cells #[Value.slice (some ⟨gu, 0, none⟩) S2.length cu] 24)) := (Below.refl _ _).alloc (Nat.le_refl _) _
          obtain ⟨vs, hv, hp⟩ := (o6.mono (show g + 1 ≤ ws.heap.size by omega)).below ba6
          have hq := own_below q6 ba6
          have hk6 := o6.kinds
          have hpl : (ps ++ S1).length = ps.length + S1.length := List.length_append
          obtain ⟨P, hP⟩ : ∃ P, ps ++ S1 = P := ⟨_, rfl⟩
          rw [hP] at hv hp hpl hT2 o6
          have HPL := Lib.hid hpl
          have hpl1 : P.length ≤ 8192 := by omega
          have HT2 := Lib.hid hT2
          clear hS0 hP hpl hT2 HPT HFL
          go_upto_region 23 with (at_builtin; go_loud (refine wpList_append_own _ rfl (.tmp 96) (.tmp 98) 42 rfl (g + 1) 24 i0 (.slice none 0 0) 1 24 Try.underlying42 hi hz0 hz1 hz2 rfl (by decide) _ P.length vs rfl hv ⟨w6.heap.size, 0, none⟩ 1 1 [Value.slice (some ⟨gu, 0, none⟩) S2.length cu] rfl rfl (cell_one_new _ _ _) (oneS _ ⟨_, _, _, rfl⟩) (by unfold maxLen; omega) (by omega) (by simp; omega) ?_; intro v7 w7 own7 grow7 _))
          have o7 := OwnP.push hv hp hq nu grow7 own7
          rw [HT2.out] at o7
          have bes7 : Besides [g] ws w7 := (bes6.alloc _).grown grow7 (fun k hk => by obtain ⟨h1, c, fz, h2⟩ := hk6 k hk; exact ⟨h1, c, _, fz, heap_old _ trivial h2⟩)
          obtain ⟨A1, c1, hv7, r1, _, p1⟩ := o7.read
          subst hv7
          obtain ⟨A2, c2, rfl, r2, _, p2⟩ := (O9.out.besides bes7 (by simp; omega)).read
          have SAME := Lib.hid (same_yes T A1 A2 c1 c2 w7 p1 p2 r1 r2)
          have bl7 : Below w.heap.size w w7 := bw.trans (bes7.to_below (by simp; omega) bw.size)
          clear o6 o7 p1 p2 q6 O9 bes6 bes7 own7 grow7 hv hp hq hk6 HT2 HPL
          go_wp2_with (go_at_call 26; refine SAME.out.mono ?_; rintro e w8 ⟨rfl, b8⟩)
          go_ret
          exact ⟨rfl, bl7.trans (b8.mono bl7.size)⟩
  · have HB := Lib.hid (fun w => new_bad le mo bi w hok)
    have HC := Lib.hid (show checkC le mo bi = 80 by rw [checkC, if_neg hok])
    clear hra hrb hok
    go_enter Try.func6, Try.ntmps6
    go_wp2_with (first | (go_at_call 15; refine (awake_any _).mono ?_; rintro e w1 ⟨rfl, ba⟩; have b1 := b0.trans (ba.mono b0.size); have d0 := keepB ba (show (w.alloc (confO le mo bi)).cell? ⟨w.heap.size, 0, none⟩ = some (.int .i64 le) by simp [go_sem]); have d1 := keepB ba (show (w.alloc (confO le mo bi)).cell? ⟨w.heap.size, 1, none⟩ = some (.int .i64 mo) by simp [go_sem]); have d2 := keepB ba (show (w.alloc (confO le mo bi)).cell? ⟨w.heap.size, 2, none⟩ = some (.int .i64 bi) by simp [go_sem])) | (go_at_call 22; refine (HB.out _).mono ?_; rintro e w2 ⟨rfl, bn1⟩; have f0 := keepB bn1 d0; have f1 := keepB bn1 d1; have f2 := keepB bn1 d2) | (go_at_call 16; refine (rcheck_any le mo bi _).mono ?_; rintro e w' ⟨rfl, rfl⟩; rw [HC.out]))
    go_ret
    have b2 := b1.trans (bn1.mono b1.size)
    exact ⟨rfl, b2.alloc b2.size _⟩
end Go.Proofs.Ytpdigpfjmpaooaa
