import Derived.Test.YtebmnfffmpiceaaB
import Derived.Test.YtebmnfffmpiceaaG
/-! Bytes. -/
namespace Go.Proofs.Ytebmnfffmpiceaa
open Go.RowKit
set_option linter.unusedVariables false
set_option linter.unusedSimpArgs false
theorem info5 : (Try.prog.info? 5).map (fun i => (i.zero, i.size, i.bytes)) = some (some (.int .u8 0), 1, 1) := by kernel_rfl
theorem bytesV_app (p : By) (x : BitVec 8) : bytesV p ++ [.int .u8 x.toNat] = bytesV (p ++ [x]) := by simp [bytesV]
theorem bytesV_at (p : By) (j : Nat) (h : j < p.length) : (bytesV p)[j]? = some (.int .u8 (p.getD j 0).toNat) := by
  simp [bytesV, List.getElem?_eq_getElem h, List.getD_eq_getElem?_getD]
theorem oneB (x : BitVec 8) : ∀ u ∈ [Value.int .u8 (x.toNat : Int)], u.oneCell' = true := by intro u hu; simp at hu; subst hu; rfl
theorem cell_one_at' (w : World) (x : Value) (t : TypeId) (a : Nat) (ha : a = w.heap.size) : ∀ j u, [x][j]? = some u → (w.alloc (.cells #[x] t)).cell? ((⟨a, 0, none⟩ : Addr).add j) = some u := by subst ha; exact cell_one_new w x t
theorem bytesT_bad (t : Tok) (l : List Tok) (b : By) (i : Int) (h : ¬ okT t) : bytesT (t :: l) b i = ([], i, 60) := by rw [bytesT, if_pos h]
theorem bytesT_dist (t : Tok) (l : List Tok) (b : By) (i : Int) (h : okT t) (h2 : (b.length : Int) < t.1) : bytesT (t :: l) b i = ([], i, 61) := by rw [bytesT, if_neg (fun x => x h), if_pos h2]
theorem bytesT_long (t : Tok) (l : List Tok) (b : By) (i : Int) (h : okT t) (h2 : ¬ (b.length : Int) < t.1) (h3 : 65536 - (b.length : Int) < t.2.1) : bytesT (t :: l) b i = ([], i, 2) := by rw [bytesT, if_neg (fun x => x h), if_neg h2, if_pos h3]
theorem bytesT_lit (t : Tok) (l : List Tok) (b : By) (i : Int) (h : okT t) (h2 : ¬ (b.length : Int) < t.1) (h3 : ¬ 65536 - (b.length : Int) < t.2.1) (h4 : t.1 = 0) : bytesT (t :: l) b i = bytesT l (b ++ [t.2.2]) (i + 1) := by rw [bytesT, if_neg (fun x => x h), if_neg h2, if_neg h3, if_pos h4]
theorem bytesT_copy (t : Tok) (l : List Tok) (b : By) (i : Int) (h : okT t) (h2 : ¬ (b.length : Int) < t.1) (h3 : ¬ 65536 - (b.length : Int) < t.2.1) (h4 : ¬ t.1 = 0) : bytesT (t :: l) b i = bytesT l (copyN t.1.toNat t.2.1.toNat b) (i + 1) := by rw [bytesT, if_neg (fun x => x h), if_neg h2, if_neg h3, if_neg h4]
theorem own_slice {w : World} {B e size n : Nat} {v : Value} {xs : List Value} (h : w.ownsRow B e size v n xs) : ∃ A c, v = .slice A n c ∧ n ≤ c := by
  rcases h.2 with ⟨rfl, rfl⟩ | ⟨g', cap, cur, rfl, _, _, hc, _⟩
  · exact ⟨none, 0, rfl, Nat.le_refl _⟩
  · exact ⟨_, cap, rfl, hc⟩
set_option maxRecDepth 100000 in
set_option maxHeartbeats 4000000 in
theorem bytes_any (l : List Tok) (A : Option Addr) (cap : Nat) (w : World) (hr : RdT w A l) (hl : l.length ≤ cap) :
    Calls Try.prog 16 #[.slice A l.length cap] w fun e w' => ∃ v, e = .returned (.tuple #[v, .int .i64 (bytesT l [] 0).2.1, .int .i64 (bytesT l [] 0).2.2]) ∧ w'.ownsRow w.heap.size 5 1 v (bytesT l [] 0).1.length (bytesV (bytesT l [] 0).1) ∧ (bytesT l [] 0).1.length ≤ 65536 ∧ Below w.heap.size w w' := by
  obtain ⟨i0, hi, hz0, hz1, hz2⟩ := info_parts info5
  have Hr := Lib.hid hr
  have hm := hr.1
  obtain ⟨T, hT⟩ : ∃ T, bytesT l [] 0 = T := ⟨_, rfl⟩
  rw [hT]
  have HT := Lib.hid hT
  clear hr hT
  go_enter Try.func16, Try.ntmps16
  go_wp2
  go_loopw [5, 10] (fun bv kv wr => ∃ (k : Nat) (acc : By), k ≤ l.length ∧ kv = .int .i64 k ∧ wr.ownsRow w.heap.size 5 1 bv acc.length (bytesV acc) ∧ bytesT (l.drop k) acc k = T ∧ acc.length ≤ 65536 ∧ Below w.heap.size w wr) (fun _ kv _ => l.length - (intOf kv).toNat)
  case atStart => exact ⟨0, [], Nat.zero_le _, rfl, World.ownsRow_nil _ _ _ _, HT.out, by simp, Below.refl _ _⟩
  case round =>
    obtain ⟨k, acc, hk, rfl, hown, hst, hacc, hbel⟩ := hrel
    obtain ⟨wo, hwo⟩ : ∃ wo : World, wo = wr := ⟨_, rfl⟩
    subst hwo
    have hsr := hbel.size
    obtain ⟨VA, VC, rfl, hVC⟩ := own_slice hown
    by_cases hlt : k < l.length
    · obtain ⟨ad, hAd, c0, c1, c2⟩ := (Hr.out.below hbel).2 k hlt
      subst hAd
      rw [List.drop_eq_getElem_cons hlt] at hst
      obtain ⟨⟨d, n, x⟩, ht⟩ : ∃ t, l[k] = t := ⟨_, rfl⟩
      rw [ht] at c0 c1 c2 hst
      simp only at c0 c1 c2
      have HO := Lib.hid hown
      have Hst := Lib.hid hst
      clear ht hst hown
      have b2 : Below w.heap.size w ((wo.alloc (tO d n x)).alloc (tO d n x)) := (hbel.alloc hsr _).alloc (by simp; omega) _
      by_cases ho : okT (d, n, x)
      · have HC := Lib.hid (show checkT (d, n, x) = 0 by rw [checkT, if_pos ho])
        obtain ⟨o1, o2, o3⟩ := ok_len ho
        simp only at o1 o2 o3
        obtain ⟨dn, rfl⟩ := Int.eq_ofNat_of_zero_le o3
        obtain ⟨nn, rfl⟩ := Int.eq_ofNat_of_zero_le (show 0 ≤ n by omega)
        by_cases h2 : acc.length < dn
        · have e := HT.out
          have e2 := Hst.out
          rw [bytesT_dist _ _ _ _ ho (by simp only; omega)] at e2
          have b4 : decide ((acc.length : Int) < (dn : Int)) = true := by simp; omega
          have He2 := Lib.hid e2
          clear e e2 ho
          go_wp2_with (first | (go_at_call 23; go_loud (refine (check_any (dn : Int) (nn : Int) x _).mono ?_; rintro e w' ⟨rfl, rfl⟩; rw [HC.out])) | fail)
          go_ret3
          have e2 := He2.out
          subst e2
          exact ⟨_, rfl, World.ownsRow_nil _ _ _ _, by simp, b2⟩
        · have b4 : decide ((acc.length : Int) < (dn : Int)) = false := by simp; omega
          by_cases h3 : 65536 < acc.length + nn
          · have e2 := Hst.out
            rw [bytesT_long _ _ _ _ ho (by simp only; omega) (by simp only; omega)] at e2
            have b5 : decide (65536 - (acc.length : Int) < (nn : Int)) = true := by simp; omega
            have He2 := Lib.hid e2
            clear e2 ho
            go_wp2_with (first | (go_at_call 23; go_loud (refine (check_any (dn : Int) (nn : Int) x _).mono ?_; rintro e w' ⟨rfl, rfl⟩; rw [HC.out])) | fail)
            go_ret3
            have e2 := He2.out
            subst e2
            exact ⟨_, rfl, World.ownsRow_nil _ _ _ _, by simp, b2⟩
          · have b5 : decide (65536 - (acc.length : Int) < (nn : Int)) = false := by simp; omega
            by_cases h4 : dn = 0
            · subst h4
              have e2 := Hst.out
              rw [bytesT_lit _ _ _ _ ho (by simp only; omega) (by simp only; omega) rfl] at e2
              simp only at e2
              have He2 := Lib.hid e2
              replace HC : Hid (checkT ((0 : Int), (nn : Int), x) = 0) := HC
              clear e2 ho
              go_wp2_with (first | (go_at_call 23; go_loud (refine (check_any 0 (nn : Int) x _).mono ?_; rintro e w' ⟨rfl, rfl⟩; rw [HC.out])) | (at_builtin; go_loud (refine wpList_append_own _ rfl (.tmp 55) (.tmp 58) 22 rfl w.heap.size 5 i0 (.int .u8 0) 1 1 Try.underlying22 hi hz0 hz1 hz2 rfl (by decide) _ acc.length _ rfl (((HO.out.alloc _).alloc _).alloc _) ⟨wo.heap.size + 1 + 1, 0, none⟩ 1 1 [.int .u8 x.toNat] rfl rfl (cell_one_at' _ _ _ _ (by simp)) (oneB _) (by unfold maxLen; omega) (by omega) (by simp; omega) ?_; intro v' w2 hown' hgrow _; have hb2 : Below w.heap.size w w2 := (((hbel.alloc hsr _).alloc (by simp; omega) _).alloc (by simp; omega) _).grown hgrow (by simp; omega) (own_base' HO.out); have HO2 := Lib.hid hown'; clear hgrow hown')) | fail)
              go_roundw
              case rel =>
                have ho := HO2.out
                rw [bytesV_app] at ho
                exact ⟨k + 1, acc ++ [x], by omega, by go_num, by simpa using ho, by exact He2.out, by simp; omega, hb2⟩
              case measure => simp [intOf]; omega
            · have e2 := Hst.out
              rw [bytesT_copy _ _ _ _ ho (by simp only; omega) (by simp only; omega) (by simp only; omega)] at e2
              simp only [Int.toNat_natCast] at e2
              have He2 := Lib.hid e2
              have b6 : ((dn : Int) == 0) = false := by rw [beq_eq_false_iff_ne]; omega
              clear e2 ho
              obtain ⟨d, hd⟩ : ∃ d : Int, (dn : Int) = d := ⟨_, rfl⟩
              obtain ⟨n, hn⟩ : ∃ n : Int, (nn : Int) = n := ⟨_, rfl⟩
              have Hd := Lib.hid hd
              have Hn := Lib.hid hn
              have d1 : 1 ≤ d := by omega
              have d2 : d ≤ acc.length := by omega
              have n1 : 1 ≤ n := by omega
              have n2 : acc.length + n ≤ 65536 := by omega
              rw [hd] at b4 b6 c0 b2 HC
              rw [hn] at b5 c1 b2 HC
              clear hd hn
              go_wp2_with (first | (go_at_call 23; go_loud (refine (check_any d n x _).mono ?_; rintro e w' ⟨rfl, rfl⟩; rw [HC.out])) | fail)
              obtain ⟨W1, hW1⟩ : ∃ W, (wo.alloc (tO d n x)).alloc (tO d n x) = W := ⟨_, rfl⟩
              have K1 : Hid (W1.heap[wo.heap.size]? = some (tO d n x)) := by subst hW1; exact heap_old _ trivial (heap_new _ _ _ rfl)
              have KO : Hid (W1.ownsRow w.heap.size 5 1 (.slice VA acc.length VC) acc.length (bytesV acc)) := by subst hW1; exact (HO.out.alloc _).alloc _
              have hb1 : Below w.heap.size w W1 := by subst hW1; exact b2
              rw [show (wo.alloc (Obj.cells #[Value.int IntKind.i64 d, Value.int IntKind.i64 n, Value.int IntKind.u8 x.toNat] 38)).alloc (Obj.cells #[Value.int IntKind.i64 d, Value.int IntKind.i64 n, Value.int IntKind.u8 x.toNat] 38) = W1 from hW1]
              clear hW1 b2 c0 c1 c2
              go_loopw [5, 17] (fun cv jv wr => ∃ j : Nat, j ≤ nn ∧ jv = .int .i64 j ∧ wr.ownsRow w.heap.size 5 1 cv (copyN dn j acc).length (bytesV (copyN dn j acc)) ∧ wr.heap[wo.heap.size]? = some (tO d n x) ∧ Below w.heap.size w wr) (fun _ jv _ => nn - (intOf jv).toNat)
              case atStart => exact ⟨0, Nat.zero_le _, rfl, KO.out, K1.out, hb1⟩
              case round =>
                obtain ⟨j, hj, rfl, hoc, hti, hbi⟩ := hrel
                have hsi := hbi.size
                have hcl := copyN_len dn j acc
                have hsn := copyN_snoc dn j acc
                obtain ⟨cur, hcur⟩ : ∃ c, copyN dn j acc = c := ⟨_, rfl⟩
                rw [hcur] at hoc hcl hsn
                have Hcl := Lib.hid hcl
                have Hcur := Lib.hid hcur
                obtain ⟨gv, cv, hgv⟩ := Joins.ownsRow_form hoc (by have := Hd.out; omega)
                subst hgv
                have hcc := own_cap hoc
                have x0 : wr.cell? ⟨wo.heap.size, 0, none⟩ = some (.int .i64 d) := by rw [Joins.cell_of_block hti]; rfl
                have x1 : wr.cell? ⟨wo.heap.size, 1, none⟩ = some (.int .i64 n) := by rw [Joins.cell_of_block hti]; rfl
                have l1 : cur.length ≤ 65536 := by have := Hn.out; omega
                have l2 : acc.length ≤ cur.length := by omega
                have hx := Hd.out
                have l3 : dn ≤ cur.length := by omega
                have l4 : 1 ≤ dn := by omega
                by_cases hjn : j < nn
                · have l5 : cur.length + 1 ≤ 65536 := by have := Hn.out; omega
                  have cc := hoc.cells (g := gv) rfl (cur.length - dn) _ (bytesV_at cur (cur.length - dn) (by omega))
                  rw [add_zero_off] at cc
                  obtain ⟨X, hX⟩ : ∃ X, cur.getD (cur.length - dn) 0 = X := ⟨_, rfl⟩
                  rw [hX] at cc hsn
                  have Hsn := Lib.hid hsn
                  have HOc := Lib.hid hoc
                  have Hti := Lib.hid hti
                  have b7 : decide ((j : Int) < n) = true := by have := Hn.out; simp; omega
                  have t1 : ((cur.length : Int) - d).toNat = cur.length - dn := by omega
                  have t2 : (cur.length : Int) - d < cur.length := by omega
                  have t3 : 0 ≤ (cur.length : Int) - d := by omega
                  clear hcl hsn hcur hX hoc hti hx
                  go_wp2_with (first | (at_builtin; go_loud (refine wpList_append_own _ rfl (.tmp 19) (.tmp 28) 22 rfl w.heap.size 5 i0 (.int .u8 0) 1 1 Try.underlying22 hi hz0 hz1 hz2 rfl (by decide) _ cur.length _ rfl (HOc.out.alloc _) ⟨wr.heap.size, 0, none⟩ 1 1 [.int .u8 X.toNat] rfl rfl (cell_one_at' _ _ _ _ (by simp)) (oneB _) (by unfold maxLen; omega) (by omega) (by simp; omega) ?_; intro v' w2 hown' hgrow _; have hb2 : Below w.heap.size w w2 := (hbi.alloc hsi _).grown hgrow (by simp; omega) (own_base' HOc.out); have hk2 := grown_heap hgrow (heap_old _ trivial Hti.out) (own_not HOc.out Hti.out (by decide)); have y0 : w2.cell? ⟨wo.heap.size, 0, none⟩ = some (.int .i64 d) := (by rw [Joins.cell_of_block hk2]; rfl); have y1 : w2.cell? ⟨wo.heap.size, 1, none⟩ = some (.int .i64 n) := (by rw [Joins.cell_of_block hk2]; rfl); have HO2 := Lib.hid hown'; have Hk2 := Lib.hid hk2; clear hgrow hown' hk2)) | fail)
                  go_roundw
                  case rel =>
                    have ho := HO2.out
                    rw [bytesV_app] at ho
                    refine ⟨j + 1, by omega, by go_num, ?_, Hk2.out, hb2⟩
                    rw [Hsn.out]
                    simpa using ho
                  case measure => simp [intOf]; omega
                · have b7 : decide ((j : Int) < n) = false := by have := Hn.out; simp; omega
                  have HOc := Lib.hid hoc
                  clear hcl hsn hcur hoc hti hx
                  go_wp2
                  go_roundw
                  case rel =>
                    have e : cur = copyN dn nn acc := by rw [← Hcur.out]; congr 1; omega
                    exact ⟨k + 1, cur, by omega, by go_num, HOc.out, by rw [e]; exact He2.out, l1, hbi⟩
                  case measure => simp [intOf]; omega
      · have HC := Lib.hid (show checkT (d, n, x) = 60 by rw [checkT, if_neg ho])
        have e2 := Hst.out
        rw [bytesT_bad _ _ _ _ ho] at e2
        have He2 := Lib.hid e2
        clear e2 ho
        go_wp2_with (first | (go_at_call 23; go_loud (refine (check_any d n x _).mono ?_; rintro e w' ⟨rfl, rfl⟩; rw [HC.out])) | fail)
        go_ret3
        have e2 := He2.out
        subst e2
        exact ⟨_, rfl, World.ownsRow_nil _ _ _ _, by simp, b2⟩
    · have e : l.drop k = [] := List.drop_eq_nil_of_le (by omega)
      rw [e, bytesT] at hst
      go_wp2
      go_ret3
      subst hst
      exact ⟨_, rfl, hown, hacc, hbel⟩
set_option maxRecDepth 100000 in
set_option maxHeartbeats 4000000 in
theorem rbytes_any (l : List Tok) (A : Option Addr) (cap : Nat) (w : World) (hr : RdT w A l) (hl : l.length ≤ cap) :
    Calls Try.prog 17 #[.slice A l.length cap] w fun e w' => ∃ v, e = .returned (.tuple #[v, .int .i64 (bytesT l [] 0).2.1, .int .i64 (bytesT l [] 0).2.2]) ∧ w'.ownsRow w.heap.size 5 1 v (bytesT l [] 0).1.length (bytesV (bytesT l [] 0).1) ∧ (bytesT l [] 0).1.length ≤ 65536 ∧ Below w.heap.size w w' := by
  obtain ⟨i0, hi, hz0, hz1, hz2⟩ := info_parts info5
  have Hr := Lib.hid hr
  have hm := hr.1
  obtain ⟨T, hT⟩ : ∃ T, bytesT l [] 0 = T := ⟨_, rfl⟩
  rw [hT]
  have HT := Lib.hid hT
  clear hr hT
  go_enter Try.func17, Try.ntmps17
  go_wp2
  go_loopw [5, 6] (fun bv kv wr => ∃ (k : Nat) (acc : By), k ≤ l.length ∧ kv = .int .i64 k ∧ wr.ownsRow w.heap.size 5 1 bv acc.length (bytesV acc) ∧ bytesT (l.drop k) acc k = T ∧ acc.length ≤ 65536 ∧ Below w.heap.size w wr) (fun _ kv _ => l.length - (intOf kv).toNat)
  case atStart => exact ⟨0, [], Nat.zero_le _, rfl, World.ownsRow_nil _ _ _ _, HT.out, by simp, Below.refl _ _⟩
  case round =>
    obtain ⟨k, acc, hk, rfl, hown, hst, hacc, hbel⟩ := hrel
    obtain ⟨wo, hwo⟩ : ∃ wo : World, wo = wr := ⟨_, rfl⟩
    subst hwo
    have hsr := hbel.size
    obtain ⟨VA, VC, rfl, hVC⟩ := own_slice hown
    by_cases hlt : k < l.length
    · obtain ⟨ad, hAd, c0, c1, c2⟩ := (Hr.out.below hbel).2 k hlt
      subst hAd
      rw [List.drop_eq_getElem_cons hlt] at hst
      obtain ⟨⟨d, n, x⟩, ht⟩ : ∃ t, l[k] = t := ⟨_, rfl⟩
      rw [ht] at c0 c1 c2 hst
      simp only at c0 c1 c2
      have HO := Lib.hid hown
      have Hst := Lib.hid hst
      clear ht hst hown
      have b2 : Below w.heap.size w ((wo.alloc (tO d n x)).alloc (tO d n x)) := (hbel.alloc hsr _).alloc (by simp; omega) _
      by_cases ho : okT (d, n, x)
      · have HC := Lib.hid (show checkT (d, n, x) = 0 by rw [checkT, if_pos ho])
        obtain ⟨o1, o2, o3⟩ := ok_len ho
        simp only at o1 o2 o3
        obtain ⟨dn, rfl⟩ := Int.eq_ofNat_of_zero_le o3
        obtain ⟨nn, rfl⟩ := Int.eq_ofNat_of_zero_le (show 0 ≤ n by omega)
        by_cases h2 : acc.length < dn
        · have e := HT.out
          have e2 := Hst.out
          rw [bytesT_dist _ _ _ _ ho (by simp only; omega)] at e2
          have b4 : decide ((acc.length : Int) < (dn : Int)) = true := by simp; omega
          have He2 := Lib.hid e2
          clear e e2 ho
          go_wp2_with (first | (go_at_call 18; go_loud (refine (rcheck_any (dn : Int) (nn : Int) x _).mono ?_; rintro e w' ⟨rfl, rfl⟩; rw [HC.out])) | fail)
          go_ret3
          have e2 := He2.out
          subst e2
          exact ⟨_, rfl, World.ownsRow_nil _ _ _ _, by simp, b2⟩
        · have b4 : decide ((acc.length : Int) < (dn : Int)) = false := by simp; omega
          by_cases h3 : 65536 < acc.length + nn
          · have e2 := Hst.out
            rw [bytesT_long _ _ _ _ ho (by simp only; omega) (by simp only; omega)] at e2
            have b5 : decide (65536 - (acc.length : Int) < (nn : Int)) = true := by simp; omega
            have He2 := Lib.hid e2
            clear e2 ho
            go_wp2_with (first | (go_at_call 18; go_loud (refine (rcheck_any (dn : Int) (nn : Int) x _).mono ?_; rintro e w' ⟨rfl, rfl⟩; rw [HC.out])) | fail)
            go_ret3
            have e2 := He2.out
            subst e2
            exact ⟨_, rfl, World.ownsRow_nil _ _ _ _, by simp, b2⟩
          · have b5 : decide (65536 - (acc.length : Int) < (nn : Int)) = false := by simp; omega
            by_cases h4 : dn = 0
            · subst h4
              have e2 := Hst.out
              rw [bytesT_lit _ _ _ _ ho (by simp only; omega) (by simp only; omega) rfl] at e2
              simp only at e2
              have He2 := Lib.hid e2
              replace HC : Hid (checkT ((0 : Int), (nn : Int), x) = 0) := HC
              clear e2 ho
              go_wp2_with (first | (go_at_call 18; go_loud (refine (rcheck_any 0 (nn : Int) x _).mono ?_; rintro e w' ⟨rfl, rfl⟩; rw [HC.out])) | (at_builtin; go_loud (refine wpList_append_own _ rfl (.tmp 62) (.tmp 65) 22 rfl w.heap.size 5 i0 (.int .u8 0) 1 1 Try.underlying22 hi hz0 hz1 hz2 rfl (by decide) _ acc.length _ rfl (((HO.out.alloc _).alloc _).alloc _) ⟨wo.heap.size + 1 + 1, 0, none⟩ 1 1 [.int .u8 x.toNat] rfl rfl (cell_one_at' _ _ _ _ (by simp)) (oneB _) (by unfold maxLen; omega) (by omega) (by simp; omega) ?_; intro v' w2 hown' hgrow _; have hb2 : Below w.heap.size w w2 := (((hbel.alloc hsr _).alloc (by simp; omega) _).alloc (by simp; omega) _).grown hgrow (by simp; omega) (own_base' HO.out); have HO2 := Lib.hid hown'; clear hgrow hown')) | fail)
              go_roundw
              case rel =>
                have ho := HO2.out
                rw [bytesV_app] at ho
                exact ⟨k + 1, acc ++ [x], by omega, by go_num, by simpa using ho, by exact He2.out, by simp; omega, hb2⟩
              case measure => simp [intOf]; omega
            · have e2 := Hst.out
              rw [bytesT_copy _ _ _ _ ho (by simp only; omega) (by simp only; omega) (by simp only; omega)] at e2
              simp only [Int.toNat_natCast] at e2
              have He2 := Lib.hid e2
              have b6 : ((dn : Int) == 0) = false := by rw [beq_eq_false_iff_ne]; omega
              clear e2 ho
              obtain ⟨d, hd⟩ : ∃ d : Int, (dn : Int) = d := ⟨_, rfl⟩
              obtain ⟨n, hn⟩ : ∃ n : Int, (nn : Int) = n := ⟨_, rfl⟩
              have Hd := Lib.hid hd
              have Hn := Lib.hid hn
              have d1 : 1 ≤ d := by omega
              have d2 : d ≤ acc.length := by omega
              have n1 : 1 ≤ n := by omega
              have n2 : acc.length + n ≤ 65536 := by omega
              rw [hd] at b4 b6 c0 b2 HC
              rw [hn] at b5 c1 b2 HC
              clear hd hn
              go_wp2_with (first | (go_at_call 18; go_loud (refine (rcheck_any d n x _).mono ?_; rintro e w' ⟨rfl, rfl⟩; rw [HC.out])) | fail)
              obtain ⟨W1, hW1⟩ : ∃ W, (wo.alloc (tO d n x)).alloc (tO d n x) = W := ⟨_, rfl⟩
              have K1 : Hid (W1.heap[wo.heap.size]? = some (tO d n x)) := by subst hW1; exact heap_old _ trivial (heap_new _ _ _ rfl)
              have KO : Hid (W1.ownsRow w.heap.size 5 1 (.slice VA acc.length VC) acc.length (bytesV acc)) := by subst hW1; exact (HO.out.alloc _).alloc _
              have hb1 : Below w.heap.size w W1 := by subst hW1; exact b2
              rw [show (wo.alloc (Obj.cells #[Value.int IntKind.i64 d, Value.int IntKind.i64 n, Value.int IntKind.u8 x.toNat] 38)).alloc (Obj.cells #[Value.int IntKind.i64 d, Value.int IntKind.i64 n, Value.int IntKind.u8 x.toNat] 38) = W1 from hW1]
              clear hW1 b2 c0 c1 c2
              go_loopw [5, 8] (fun cv jv wr => ∃ j : Nat, j ≤ nn ∧ jv = .int .i64 j ∧ wr.ownsRow w.heap.size 5 1 cv (copyN dn j acc).length (bytesV (copyN dn j acc)) ∧ wr.heap[wo.heap.size]? = some (tO d n x) ∧ Below w.heap.size w wr) (fun _ jv _ => nn - (intOf jv).toNat)
              case atStart => exact ⟨0, Nat.zero_le _, rfl, KO.out, K1.out, hb1⟩
              case round =>
                obtain ⟨j, hj, rfl, hoc, hti, hbi⟩ := hrel
                have hsi := hbi.size
                have hcl := copyN_len dn j acc
                have hsn := copyN_snoc dn j acc
                obtain ⟨cur, hcur⟩ : ∃ c, copyN dn j acc = c := ⟨_, rfl⟩
                rw [hcur] at hoc hcl hsn
                have Hcl := Lib.hid hcl
                have Hcur := Lib.hid hcur
                obtain ⟨gv, cv, hgv⟩ := Joins.ownsRow_form hoc (by have := Hd.out; omega)
                subst hgv
                have hcc := own_cap hoc
                have x0 : wr.cell? ⟨wo.heap.size, 0, none⟩ = some (.int .i64 d) := by rw [Joins.cell_of_block hti]; rfl
                have x1 : wr.cell? ⟨wo.heap.size, 1, none⟩ = some (.int .i64 n) := by rw [Joins.cell_of_block hti]; rfl
                have l1 : cur.length ≤ 65536 := by have := Hn.out; omega
                have l2 : acc.length ≤ cur.length := by omega
                have hx := Hd.out
                have l3 : dn ≤ cur.length := by omega
                have l4 : 1 ≤ dn := by omega
                by_cases hjn : j < nn
                · have l5 : cur.length + 1 ≤ 65536 := by have := Hn.out; omega
                  have cc := hoc.cells (g := gv) rfl (cur.length - dn) _ (bytesV_at cur (cur.length - dn) (by omega))
                  rw [add_zero_off] at cc
                  obtain ⟨X, hX⟩ : ∃ X, cur.getD (cur.length - dn) 0 = X := ⟨_, rfl⟩
                  rw [hX] at cc hsn
                  have Hsn := Lib.hid hsn
                  have HOc := Lib.hid hoc
                  have Hti := Lib.hid hti
                  have b7 : decide ((j : Int) < n) = true := by have := Hn.out; simp; omega
                  have t1 : ((cur.length : Int) - d).toNat = cur.length - dn := by omega
                  have t2 : (cur.length : Int) - d < cur.length := by omega
                  have t3 : 0 ≤ (cur.length : Int) - d := by omega
                  clear hcl hsn hcur hX hoc hti hx
                  go_wp2_with (first | (at_builtin; go_loud (refine wpList_append_own _ rfl (.tmp 34) (.tmp 36) 22 rfl w.heap.size 5 i0 (.int .u8 0) 1 1 Try.underlying22 hi hz0 hz1 hz2 rfl (by decide) _ cur.length _ rfl (HOc.out.alloc _) ⟨wr.heap.size, 0, none⟩ 1 1 [.int .u8 X.toNat] rfl rfl (cell_one_at' _ _ _ _ (by simp)) (oneB _) (by unfold maxLen; omega) (by omega) (by simp; omega) ?_; intro v' w2 hown' hgrow _; have hb2 : Below w.heap.size w w2 := (hbi.alloc hsi _).grown hgrow (by simp; omega) (own_base' HOc.out); have hk2 := grown_heap hgrow (heap_old _ trivial Hti.out) (own_not HOc.out Hti.out (by decide)); have y0 : w2.cell? ⟨wo.heap.size, 0, none⟩ = some (.int .i64 d) := (by rw [Joins.cell_of_block hk2]; rfl); have y1 : w2.cell? ⟨wo.heap.size, 1, none⟩ = some (.int .i64 n) := (by rw [Joins.cell_of_block hk2]; rfl); have HO2 := Lib.hid hown'; have Hk2 := Lib.hid hk2; clear hgrow hown' hk2)) | fail)
                  go_roundw
                  case rel =>
                    have ho := HO2.out
                    rw [bytesV_app] at ho
                    refine ⟨j + 1, by omega, by go_num, ?_, Hk2.out, hb2⟩
                    rw [Hsn.out]
                    simpa using ho
                  case measure => simp [intOf]; omega
                · have b7 : decide ((j : Int) < n) = false := by have := Hn.out; simp; omega
                  have HOc := Lib.hid hoc
                  clear hcl hsn hcur hoc hti hx
                  go_wp2
                  go_roundw
                  case rel =>
                    have e : cur = copyN dn nn acc := by rw [← Hcur.out]; congr 1; omega
                    exact ⟨k + 1, cur, by omega, by go_num, HOc.out, by rw [e]; exact He2.out, l1, hbi⟩
                  case measure => simp [intOf]; omega
      · have HC := Lib.hid (show checkT (d, n, x) = 60 by rw [checkT, if_neg ho])
        have e2 := Hst.out
        rw [bytesT_bad _ _ _ _ ho] at e2
        have He2 := Lib.hid e2
        clear e2 ho
        go_wp2_with (first | (go_at_call 18; go_loud (refine (rcheck_any d n x _).mono ?_; rintro e w' ⟨rfl, rfl⟩; rw [HC.out])) | fail)
        go_ret3
        have e2 := He2.out
        subst e2
        exact ⟨_, rfl, World.ownsRow_nil _ _ _ _, by simp, b2⟩
    · have e : l.drop k = [] := List.drop_eq_nil_of_le (by omega)
      rw [e, bytesT] at hst
      go_wp2
      go_ret3
      subst hst
      exact ⟨_, rfl, hown, hacc, hbel⟩
end Go.Proofs.Ytebmnfffmpiceaa
