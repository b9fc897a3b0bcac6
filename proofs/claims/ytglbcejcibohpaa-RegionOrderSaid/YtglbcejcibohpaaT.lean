import Derived.Test.YtglbcejcibohpaaQ
import Derived.Deep.OwnRows
/-! Blocks as bits: bits, turn, row. -/
namespace Go.Proofs.Ytglbcejcibohpaa
open Go.RowKit
set_option linter.unusedVariables false
set_option linter.unusedSimpArgs false
def bv (f : List Bool) : Array Value := (f.map Value.bool).toArray
theorem bv_set (f : List Bool) (j : Nat) (v : Bool) : (bv f).setIfInBounds j (.bool v) = bv (f.set j v) := by
  unfold bv
  rw [List.setIfInBounds_toArray, List.map_set]
theorem bv_at (f : List Bool) (j : Nat) (h : j < f.length) : (bv f)[j]? = some (.bool f[j]) := by
  unfold bv
  simp [h]
theorem info4 : (Try.prog.info? 4).map (fun i => (i.zero, i.size, i.bytes)) = some (some (.bool false), 1, 1) := by kernel_rfl
theorem made_bv (n : Nat) : madeCells #[Value.bool false] n = bv (List.replicate n false) := by
  unfold bv
  rw [List.map_replicate]
  apply Array.ext'
  simp only [madeCells]
  apply List.ext_getElem
  · simp
  · intro i h1 h2
    simp [Nat.mod_one]
/-- So many from a place on are so. -/
def turnB (f : List Bool) (a k : Int) (v : Bool) : List Bool := f.mapIdx fun i x => if a ≤ (i : Int) ∧ (i : Int) < a + k then v else x
theorem turnB_len (f : List Bool) (a k : Int) (v : Bool) : (turnB f a k v).length = f.length := by simp [turnB]
theorem turnB_at (f : List Bool) (a k : Int) (v : Bool) (i : Nat) (h : i < f.length) : (turnB f a k v)[i]? = some (if a ≤ (i : Int) ∧ (i : Int) < a + k then v else f[i]) := by
  simp [turnB, h]
theorem turnB_zero (f : List Bool) (a : Int) (v : Bool) : turnB f a ((0 : Nat) : Int) v = f := by
  apply List.ext_getElem?
  intro i
  rcases Nat.lt_or_ge i f.length with h | h
  · rw [turnB_at _ _ _ _ _ h, if_neg (by omega), List.getElem?_eq_getElem h]
  · rw [List.getElem?_eq_none h, List.getElem?_eq_none (by rw [turnB_len]; exact h)]
theorem turnB_next (f : List Bool) (a k : Int) (v : Bool) (j : Nat) (hj : (j : Int) = a + k) (hk : 0 ≤ k) : (turnB f a k v).set j v = turnB f a (k + 1) v := by
  apply List.ext_getElem?
  intro i
  rw [List.getElem?_set]
  rcases Nat.lt_or_ge i f.length with h | h
  · rw [turnB_at _ _ _ _ _ h, turnB_at _ _ _ _ _ h, turnB_len]
    by_cases he : j = i
    · subst he
      rw [if_pos rfl, if_pos h, if_pos (by omega)]
    · rw [if_neg he]
      congr 1
      by_cases h1 : a ≤ (i : Int) ∧ (i : Int) < a + k
      · rw [if_pos h1, if_pos (by omega)]
      · rw [if_neg h1, if_neg (by omega)]
  · rw [List.getElem?_eq_none (by rw [turnB_len]; exact h), List.getElem?_eq_none (by rw [turnB_len]; exact h), turnB_len]
    split
    · rw [if_neg (by omega)]
    · rfl
def bitsT (n : Nat) (l : List Ext) : List Bool := l.foldl (fun f e => turnB f e.1 e.2 true) (List.replicate n false)
theorem bitsT_snoc (n : Nat) (l : List Ext) (k : Nat) (h : k < l.length) : bitsT n (l.take (k + 1)) = turnB (bitsT n (l.take k)) l[k].1 l[k].2 true := by
  unfold bitsT
  rw [List.take_succ_eq_append_getElem h, List.foldl_append]
  rfl
theorem fold_len : ∀ (l : List Ext) (f : List Bool), (l.foldl (fun f e => turnB f e.1 e.2 true) f).length = f.length
  | [], f => rfl
  | e :: l, f => by rw [List.foldl_cons, fold_len l, turnB_len]
theorem fold_at : ∀ (l : List Ext) (f : List Bool) (i : Nat) (h : i < f.length), (l.foldl (fun f e => turnB f e.1 e.2 true) f)[i]? = some (f[i] || memB l (i : Int))
  | [], f, i, h => by simp [memB, h]
  | e :: l, f, i, h => by
    rw [List.foldl_cons, fold_at l _ i (by rw [turnB_len]; exact h)]
    have h1 := turnB_at f e.1 e.2 true i h
    rw [List.getElem?_eq_getElem (by rw [turnB_len]; exact h)] at h1
    rw [Option.some.inj h1]
    congr 1
    unfold memB
    rw [List.any_cons]
    by_cases h2 : e.1 ≤ (i : Int) ∧ (i : Int) < e.1 + e.2
    · rw [if_pos h2, show decide (inE e (i : Int)) = true from decide_eq_true h2]
      simp
    · rw [if_neg h2, show decide (inE e (i : Int)) = false from decide_eq_false h2]
      simp
theorem bitsT_len (n : Nat) (l : List Ext) : (bitsT n l).length = n := by unfold bitsT; rw [fold_len]; simp
theorem bitsT_at (n : Nat) (l : List Ext) (i : Nat) (h : i < n) : (bitsT n l)[i]? = some (memB l (i : Int)) := by
  unfold bitsT
  rw [fold_at l _ i (by simpa using h)]
  simp
theorem own_setAt {w : World} {B e size n c g j : Nat} {xs : List Value} (h : w.ownsRow B e size (.slice (some ⟨g, 0, none⟩) n c) n xs) (hj : j < xs.length) (u : Value) : (w.setCell ⟨g, j, none⟩ u).ownsRow B e size (.slice (some ⟨g, 0, none⟩) n c) n (xs.set j u) := by
  refine ⟨by rw [List.length_set]; exact h.1, ?_⟩
  rcases h.2 with ⟨hn, _⟩ | ⟨g', cap, cur, he, hb, hh, h1, h2, h3, h4⟩
  · cases hn
  · simp only [Value.slice.injEq, Option.some.injEq, Addr.mk.injEq] at he
    obtain ⟨⟨rfl, _⟩, _, rfl⟩ := he
    refine .inr ⟨g, c, cur.setIfInBounds j u, rfl, hb, ?_, h1, h2, by simpa using h3, ?_⟩
    · simp [World.setCell, Array.getElem?_modify, hh]
    · rw [Array.toList_setIfInBounds, List.take_set, h4]
theorem own_fr {w : World} {B e size n c g : Nat} {xs : List Value} (h : w.ownsRow B e size (.slice (some ⟨g, 0, none⟩) n c) n xs) (hn : 0 < n) (i : Nat) : w.frozen? ⟨g, i, none⟩ = false := by
  rcases h.2 with ⟨hn, _⟩ | ⟨g', cap, cur, he, hb, hh, h1, h2, h3, h4⟩
  · cases hn
  · simp only [Value.slice.injEq, Option.some.injEq, Addr.mk.injEq] at he
    obtain ⟨⟨rfl, _⟩, _, rfl⟩ := he
    exact fr_of hh i
theorem exts_last (p : List Ext) (s m u : Int) : (extsV (p ++ [(s, m)])).set (p.length * 2 + 1) (.int .i64 u) = extsV (p ++ [(s, u)]) := by
  rw [← extsV_app, ← extsV_app, List.set_append, if_neg (by rw [extsV_len]; omega), extsV_len, show p.length * 2 + 1 - p.length * 2 = 1 by omega]
  rfl
theorem exts_last_at (p : List Ext) (s m : Int) : (extsV (p ++ [(s, m)]))[p.length * 2 + 1]? = some (.int .i64 m) := by
  rw [← extsV_app, List.getElem?_append_right (by rw [extsV_len]; omega), extsV_len, show p.length * 2 + 1 - p.length * 2 = 1 by omega]
  rfl
/-- The row as far as it is made. -/
def RowTo (f : List Bool) (T : List Ext) (i : Nat) (p : List Ext) : Prop :=
  ((i = 0 ∨ f[i - 1]? = some false) ∧ p ++ rowS none i (f.drop i) = T) ∨
  (0 < i ∧ f[i - 1]? = some true ∧ ∃ (p' : List Ext) (s m : Nat), p = p' ++ [((s : Int), (m : Int))] ∧ m ≤ i ∧ p' ++ rowS (some (s, m)) i (f.drop i) = T)
theorem heap_setCell {w : World} {b : Nat} {cs : Array Value} {t : TypeId} {fr : Nat × Nat} (h : w.heap[b]? = some (.cells cs t fr)) (i : Nat) (u : Value) : (w.setCell ⟨b, i, none⟩ u).heap[b]? = some (.cells (cs.setIfInBounds i u) t fr) := by
  simp [World.setCell, Array.getElem?_modify, h]
theorem row_off {f : List Bool} {T p : List Ext} {i : Nat} (h : RowTo f T i p) (hi : i < f.length) (hd : f.drop i = false :: f.drop (i + 1)) (hf : f[i]? = some false) : RowTo f T (i + 1) p := by
  refine Or.inl ⟨Or.inr (by simpa using hf), ?_⟩
  rcases h with ⟨_, h2⟩ | ⟨_, _, p', s, m, rfl, _, h2⟩
  · rw [hd, rowS] at h2; exact h2
  · rw [hd, rowS] at h2; rw [List.append_assoc]; exact h2
theorem row_new {f : List Bool} {T p : List Ext} {i : Nat} (h : p ++ rowS none i (f.drop i) = T) (hd : f.drop i = true :: f.drop (i + 1)) (hf : f[i]? = some true) : RowTo f T (i + 1) (p ++ [((i : Int), ((1 : Nat) : Int))]) :=
  Or.inr ⟨by omega, by simpa using hf, p, i, 1, rfl, by omega, by rw [hd, rowS] at h; exact h⟩
theorem row_more {f : List Bool} {T p' : List Ext} {i s m : Nat} (h : p' ++ rowS (some (s, m)) i (f.drop i) = T) (hd : f.drop i = true :: f.drop (i + 1)) (hf : f[i]? = some true) (hm : m ≤ i) : RowTo f T (i + 1) (p' ++ [((s : Int), ((m + 1 : Nat) : Int))]) :=
  Or.inr ⟨by omega, by simpa using hf, p', s, m + 1, rfl, by omega, by rw [hd, rowS] at h; exact h⟩
theorem row_end {f : List Bool} {T p : List Ext} {i : Nat} (h : RowTo f T i p) (hi : f.length ≤ i) : p = T := by
  rcases h with ⟨_, h2⟩ | ⟨_, _, p', s, m, rfl, _, h2⟩
  · rw [List.drop_eq_nil_of_le hi, rowS, List.append_nil] at h2; exact h2
  · rw [List.drop_eq_nil_of_le hi, rowS] at h2; exact h2
set_option maxRecDepth 100000 in
set_option maxHeartbeats 4000000 in
theorem bits_any (n : Nat) (l : List Ext) (A : Option Addr) (cap : Nat) (w : World) (hn : n ≤ 4096) (hf : freeE n l) (hr : RdE w A l) (hl : l.length ≤ cap) :
    Calls Try.prog 40 #[.int .i64 n, .slice A l.length cap] w fun e w' => e = .returned (.slice (some ⟨w.heap.size, 0, none⟩) n n) ∧ w.alloc (.cells (bv (bitsT n l)) 4) = w' := by
  have hmk := run_make_row' (P := Try.prog) 53 4 (.bool false) 1 Try.underlying53 info4 rfl .i64 .i64 n (by omega) (by omega)
  rw [made_bv] at hmk
  have hm := hr.1
  have HF := Lib.hid hf
  have HR := Lib.hid hr
  clear hf hr
  go_enter Try.func40, Try.ntmps40
  go_wp2
  clear hmk
  go_loopw [6, 7] (fun iv _ wr => ∃ i : Nat, i ≤ l.length ∧ iv = .int .i64 i ∧ wr = w.alloc (.cells (bv (bitsT n (l.take i))) 4)) (fun iv _ _ => l.length - (intOf iv).toNat)
  case atStart => exact ⟨0, Nat.zero_le _, rfl, rfl⟩
  case round =>
    obtain ⟨i, hi, rfl, hwr⟩ := hrel
    by_cases hlt : i < l.length
    · have ba : Below w.heap.size w wr := by rw [hwr]; exact (Below.refl _ _).alloc (Nat.le_refl _) _
      obtain ⟨ad, hAd, c0, c1, i1, i2⟩ := HR.out.2 i hlt
      subst hAd
      have hlie := (freeF_lies HF.out _ (List.getElem_mem hlt)).1
      have hX := bitsT_snoc n l i hlt
      have hXl := bitsT_len n (l.take i)
      obtain ⟨⟨x, y⟩, ht⟩ : ∃ t, l[i] = t := ⟨_, rfl⟩
      rw [ht] at c0 c1 hlie hX
      unfold liesE at hlie
      simp only at c0 c1 hlie hX
      obtain ⟨p1, p2, p3⟩ := hlie
      obtain ⟨x, rfl⟩ := Int.eq_ofNat_of_zero_le p1
      obtain ⟨y, rfl⟩ := Int.eq_ofNat_of_zero_le (show 0 ≤ y by omega)
      obtain ⟨X, hX0⟩ : ∃ X, bitsT n (l.take i) = X := ⟨_, rfl⟩
      rw [hX0] at hwr hX hXl
      have HX := Lib.hid hX
      clear ht i1 i2 hX hX0 ba
      obtain ⟨wo, hwo⟩ : ∃ wo, wo = wr := ⟨_, rfl⟩
      have hwo' := Lib.hid (hwo.trans hwr)
      subst hwo
      clear hwr
      go_wp2
      go_loopw [7] (fun kv wr => ∃ k : Nat, k ≤ y ∧ kv = .int .i64 k ∧ wr = w.alloc (.cells (bv (turnB X x k true)) 4)) (fun kv _ => y - (intOf kv).toNat)
      case atStart => exact ⟨0, Nat.zero_le _, rfl, by rw [hwo'.out, turnB_zero]⟩
      case round =>
        obtain ⟨k, hk, rfl, rfl⟩ := hrel
        have c0' := cell_old (.cells (bv (turnB X x k true)) 4) c0
        have c1' := cell_old (.cells (bv (turnB X x k true)) 4) c1
        by_cases hlk : k < y
        · have hin : x + k < (turnB X x k true).length := by rw [turnB_len]; omega
          obtain ⟨z, hz⟩ : ∃ z, (bv (turnB X x k true))[x + k]? = some (.bool z) := ⟨_, bv_at _ _ hin⟩
          have hcell := cell_new w (bv (turnB X x k true)) 4 (0, 0) (x + k) _ hz
          have HN := Lib.hid (by have := turnB_next X x k true (x + k) (by push_cast; rfl) (by omega); exact this)
          have s1 : IntKind.i64.wrap ((x : Int) + (k : Int)) = (x : Int) + (k : Int) := IntWalk.i64_in _ (by omega)
          have s2 : ((x : Int) + (k : Int)).toNat = x + k := by omega
          clear hin hz
          go_wp2
          clear s1 s2
          go_roundw
          case rel => exact ⟨k + 1, by omega, by go_num, by rw [bv_set, HN.out]; simp⟩
          case measure => simp [intOf]; omega
        · obtain rfl : k = y := by omega
          go_wp2
          go_roundw
          case rel => exact ⟨i + 1, by omega, by go_num, by rw [HX.out]⟩
          case measure => simp [intOf]; omega
    · obtain rfl : i = l.length := by omega
      rw [List.take_length] at hwr
      subst hwr
      go_wp2
      go_ret
      exact ⟨rfl, rfl⟩
set_option maxRecDepth 100000 in
set_option maxHeartbeats 4000000 in
theorem turn_any (f : List Bool) (g n : Nat) (a m : Int) (v : Bool) (w : World) (hn : f.length = n) (hn' : n ≤ 4096) (ha : 0 ≤ a) (hm : 0 ≤ m) (ham : a + m ≤ n) (hg : w.heap[g]? = some (.cells (bv f) 4)) :
    Calls Try.prog 39 #[.slice (some ⟨g, 0, none⟩) n n, eV a m, .bool v] w fun e w' => e = .returned (.slice (some ⟨g, 0, none⟩) n n) ∧ w'.heap[g]? = some (.cells (bv (turnB f a m v)) 4) ∧ Bes g g w w' := by
  obtain ⟨a, rfl⟩ := Int.eq_ofNat_of_zero_le ha
  obtain ⟨m, rfl⟩ := Int.eq_ofNat_of_zero_le hm
  have ltg : g < w.heap.size := (Array.getElem?_eq_some_iff.1 hg).1
  have hg1 := Lib.hid (heap_old (eO a m) trivial hg)
  have hb1 := Lib.hid (heap_new w (eO a m) w.heap.size rfl)
  clear hg
  go_enter Try.func39, Try.ntmps39
  go_wp2
  go_loopw [7] (fun kv wr => ∃ k : Nat, k ≤ m ∧ kv = .int .i64 k ∧ wr.heap[g]? = some (.cells (bv (turnB f a k v)) 4) ∧ wr.heap[w.heap.size]? = some (eO a m) ∧ Bes g g w wr) (fun kv _ => m - (intOf kv).toNat)
  case atStart => exact ⟨0, Nat.zero_le _, rfl, by rw [turnB_zero]; exact hg1.out, hb1.out, (Bes.refl _ _ _).alloc _⟩
  case round =>
    obtain ⟨k, hk, rfl, h1, h2, hbel⟩ := hrel
    have k0 : wr.cell? ⟨w.heap.size, 0, none⟩ = some (.int .i64 a) := by rw [Joins.cell_of_block h2]; rfl
    have k1 : wr.cell? ⟨w.heap.size, 1, none⟩ = some (.int .i64 m) := by rw [Joins.cell_of_block h2]; rfl
    have H1 := Lib.hid h1
    have H2 := Lib.hid h2
    by_cases hlk : k < m
    · have hin : a + k < (turnB f a k v).length := by rw [turnB_len]; omega
      obtain ⟨z, hz⟩ : ∃ z, (bv (turnB f a k v))[a + k]? = some (.bool z) := ⟨_, bv_at _ _ hin⟩
      have hcell : wr.cell? ⟨g, a + k, none⟩ = some (.bool z) := by rw [Joins.cell_of_block h1]; exact hz
      have hfr := fr_of h1 (a + k)
      have HN := Lib.hid (by have := turnB_next f a k v (a + k) (by push_cast; rfl) (by omega); exact this)
      have s1 : IntKind.i64.wrap ((a : Int) + (k : Int)) = (a : Int) + (k : Int) := IntWalk.i64_in _ (by omega)
      have s2 : ((a : Int) + (k : Int)).toNat = a + k := by omega
      clear hin hz h1 h2
      go_wp2
      clear s1 s2
      go_roundw
      case rel => exact ⟨k + 1, by omega, by go_num, by have := heap_setCell H1.out (a + k) (.bool v); rw [bv_set, HN.out] at this; simpa using this, heap_set_other H2.out (by omega), hbel.setP _ _⟩
      case measure => simp [intOf]; omega
    · obtain rfl : k = m := by omega
      clear h1 h2
      go_wp2
      go_ret
      exact ⟨rfl, H1.out, hbel⟩
set_option maxRecDepth 100000 in
set_option maxHeartbeats 4000000 in
theorem row_any (f : List Bool) (g n : Nat) (w : World) (hn : f.length = n) (hn' : n ≤ 4096) (hg : w.heap[g]? = some (.cells (bv f) 4)) :
    Calls Try.prog 38 #[.slice (some ⟨g, 0, none⟩) n n] w fun e w' => ∃ v, e = .returned v ∧ w'.ownsRow w.heap.size 25 2 v (rowE f).length (extsV (rowE f)) ∧ Below w.heap.size w w' := by
  obtain ⟨i0, hi, hz0, hz1, hz2⟩ := info_parts info25
  have ltg : g < w.heap.size := (Array.getElem?_eq_some_iff.1 hg).1
  have HG := Lib.hid hg
  obtain ⟨T, hT⟩ : ∃ T, rowE f = T := ⟨_, rfl⟩
  rw [hT]
  have HT := Lib.hid hT
  clear hT hg
  go_enter Try.func38, Try.ntmps38
  go_wp2
  go_loopw [3, 4] (fun lv kv wr => ∃ (i : Nat) (p : List Ext), i ≤ n ∧ p.length ≤ i ∧ kv = .int .i64 i ∧ RowTo f T i p ∧ wr.ownsRow w.heap.size 25 2 lv p.length (extsV p) ∧ Below w.heap.size w wr) (fun _ kv _ => n - (intOf kv).toNat)
  case atStart => exact ⟨0, [], Nat.zero_le _, Nat.le_refl _, rfl, Or.inl ⟨Or.inl rfl, HT.out⟩, World.ownsRow_nil _ _ _ _, Below.refl _ _⟩
  case round =>
    obtain ⟨i, p, hk, hpi, rfl, hrow, hown, hbel⟩ := hrel
    have hsr := hbel.size
    by_cases hlt : i < n
    · have hin : i < f.length := by omega
      have hG := keepH hbel HG.out
      have hcell : wr.cell? ⟨g, i, none⟩ = some (.bool f[i]) := by rw [Joins.cell_of_block hG]; exact bv_at _ _ hin
      have hdr := List.drop_eq_getElem_cons hin
      cases hfi : f[i] with
      | false =>
        rw [hfi] at hcell hdr
        have HN := Lib.hid (row_off hrow hin hdr (by rw [List.getElem?_eq_getElem hin, hfi]))
        clear hrow hdr hfi hin hG
        go_wp2
        go_roundw
        case rel => exact ⟨i + 1, p, by omega, by omega, by go_num, HN.out, hown, hbel⟩
        case measure => simp [intOf]; omega
      | true =>
        rw [hfi] at hcell hdr
        have hfi' : f[i]? = some true := by rw [List.getElem?_eq_getElem hin, hfi]
        rcases hrow with ⟨h1, h2⟩ | ⟨h0, h1, p', s, m, hp, hm, h2⟩
        · have HN := Lib.hid (row_new h2 hdr hfi')
          have HO := Lib.hid hown
          have HLT := Lib.hid hlt
          have HPI := Lib.hid hpi
          rcases h1 with rfl | h1
          · clear h2 hdr hfi hfi' hin hown hG
            go_wp2_with (first | (at_builtin; go_loud (refine wpList_append_own _ rfl (.tmp 35) (.tmp 38) 22 rfl w.heap.size 25 i0 (.agg #[.int .i64 0, .int .i64 0]) 2 16 Try.underlying22 hi hz0 hz1 hz2 rfl (by decide) _ p.length _ rfl (HO.out.alloc _) ⟨wr.heap.size, 0, none⟩ 1 1 [.int .i64 (0), .int .i64 (1)] rfl rfl (two_at _ _ _ _ _ (by simp)) (oneExt _ _) (by unfold maxLen; omega) (by omega) (by simp; omega) ?_; intro v' w3 hown' hgrow _; have hb3 : Below w.heap.size w w3 := (hbel.alloc hsr _).grown hgrow (by simp; omega) (own_base' HO.out); have HO3 := Lib.hid hown'; clear hown' hgrow)) | fail)
            go_roundw
            case rel =>
              have ho := HO3.out
              rw [show [Value.int IntKind.i64 0, Value.int IntKind.i64 1] = [Value.int IntKind.i64 (((0 : Nat) : Int), ((1 : Nat) : Int)).1, Value.int IntKind.i64 (((0 : Nat) : Int), ((1 : Nat) : Int)).2] from rfl, extsV_snoc] at ho
              exact ⟨0 + 1, p ++ [(((0 : Nat) : Int), ((1 : Nat) : Int))], by have := HLT.out; omega, by have := HPI.out; rw [List.length_append]; simp only [List.length_cons, List.length_nil]; omega, by go_num, HN.out, by simpa using ho, hb3⟩
            case measure => simp [intOf]; omega
          · have hi0 : 0 < i := by
              rcases Nat.eq_zero_or_pos i with rfl | h
              · rw [hfi'] at h1; cases h1
              · exact h
            obtain ⟨j, rfl⟩ : ∃ j, i = j + 1 := ⟨i - 1, by omega⟩
            have hcj : wr.cell? ⟨g, j, none⟩ = some (.bool false) := by
              rw [Joins.cell_of_block hG]
              have hj : j < f.length := by omega
              have : f[j] = false := by
                rw [show j + 1 - 1 = j by omega, List.getElem?_eq_getElem hj] at h1
                exact Option.some.inj h1
              have h := bv_at f j hj
              rw [this] at h
              exact h
            have sj : IntKind.i64.wrap (((j + 1 : Nat) : Int) - 1) = j := by rw [show ((j + 1 : Nat) : Int) - 1 = j by omega]; exact IntWalk.i64_in _ (by omega)
            have sj' : IntKind.i64.wrap ((j : Int) + 1 - 1) = j := by rw [show ((j : Int)) + 1 - 1 = j by omega]; exact IntWalk.i64_in _ (by omega)
            clear h1 h2 hdr hfi hfi' hin hown hG
            go_wp2_with (first | (at_builtin; go_loud (refine wpList_append_own _ rfl (.tmp 35) (.tmp 38) 22 rfl w.heap.size 25 i0 (.agg #[.int .i64 0, .int .i64 0]) 2 16 Try.underlying22 hi hz0 hz1 hz2 rfl (by decide) _ p.length _ rfl (HO.out.alloc _) ⟨wr.heap.size, 0, none⟩ 1 1 [.int .i64 ((j : Int) + 1), .int .i64 (1)] rfl rfl (two_at _ _ _ _ _ (by simp)) (oneExt _ _) (by unfold maxLen; omega) (by omega) (by simp; omega) ?_; intro v' w3 hown' hgrow _; have hb3 : Below w.heap.size w w3 := (hbel.alloc hsr _).grown hgrow (by simp; omega) (own_base' HO.out); have HO3 := Lib.hid hown'; clear hown' hgrow)) | fail)
            clear sj sj'
            go_roundw
            case rel =>
              have ho := HO3.out
              rw [show [Value.int IntKind.i64 ((j : Int) + 1), Value.int IntKind.i64 1] = [Value.int IntKind.i64 (((j + 1 : Nat) : Int), ((1 : Nat) : Int)).1, Value.int IntKind.i64 (((j + 1 : Nat) : Int), ((1 : Nat) : Int)).2] from rfl, extsV_snoc] at ho
              exact ⟨j + 1 + 1, p ++ [(((j + 1 : Nat) : Int), ((1 : Nat) : Int))], by omega, by simp; omega, by go_num, HN.out, by simpa using ho, hb3⟩
            case measure => simp [intOf]; omega
        · obtain ⟨j, rfl⟩ : ∃ j, i = j + 1 := ⟨i - 1, by omega⟩
          have hcj : wr.cell? ⟨g, j, none⟩ = some (.bool true) := by
            rw [Joins.cell_of_block hG]
            have hj : j < f.length := by omega
            have : f[j] = true := by
              rw [show j + 1 - 1 = j by omega, List.getElem?_eq_getElem hj] at h1
              exact Option.some.inj h1
            have h := bv_at f j hj
            rw [this] at h
            exact h
          have HN := Lib.hid (row_more h2 hdr hfi' hm)
          subst hp
          have hpl : (p' ++ [((s : Int), (m : Int))]).length = p'.length + 1 := by simp
          rw [hpl] at hown hpi
          obtain ⟨gv, cv, rfl⟩ := Joins.ownsRow_form hown (by omega)
          have hxc := hown.cells (g := gv) rfl _ _ (exts_last_at p' s m)
          rw [add_zero_off] at hxc
          have hfr := own_fr hown (by omega) (p'.length * 2 + 1)
          have HO := Lib.hid (own_setAt hown (j := p'.length * 2 + 1) (by rw [extsV_len, hpl]; omega) (.int .i64 ((m : Int) + 1)))
          have hgv := own_base' hown gv rfl
          have sj : IntKind.i64.wrap (((j + 1 : Nat) : Int) - 1) = j := by rw [show ((j + 1 : Nat) : Int) - 1 = j by omega]; exact IntWalk.i64_in _ (by omega)
          have sj' : IntKind.i64.wrap ((j : Int) + 1 - 1) = j := by rw [show ((j : Int)) + 1 - 1 = j by omega]; exact IntWalk.i64_in _ (by omega)
          have sl : IntKind.i64.wrap (((p'.length + 1 : Nat) : Int) - 1) = (p'.length : Int) := by rw [show ((p'.length + 1 : Nat) : Int) - 1 = p'.length by omega]; exact IntWalk.i64_in _ (by omega)
          have sl' : IntKind.i64.wrap ((p'.length : Int) + 1 - 1) = (p'.length : Int) := by rw [show (p'.length : Int) + 1 - 1 = p'.length by omega]; exact IntWalk.i64_in _ (by omega)
          have sm : IntKind.i64.wrap ((m : Int) + 1) = (m : Int) + 1 := IntWalk.i64_in _ (by omega)
          clear h1 h2 hdr hfi hfi' hin hown hG
          go_wp2
          clear sj sj' sl sl' sm
          go_roundw
          case rel =>
            have ho := HO.out
            rw [exts_last] at ho
            exact ⟨j + 1 + 1, p' ++ [((s : Int), ((m + 1 : Nat) : Int))], by omega, by simp; omega, by go_num, HN.out, by simpa using ho, hbel.setCell hgv _⟩
          case measure => simp [intOf]; omega
    · obtain rfl : i = n := by omega
      have ep := row_end hrow (by omega)
      subst ep
      go_wp2
      go_ret
      exact ⟨_, rfl, hown, hbel⟩
end Go.Proofs.Ytglbcejcibohpaa
