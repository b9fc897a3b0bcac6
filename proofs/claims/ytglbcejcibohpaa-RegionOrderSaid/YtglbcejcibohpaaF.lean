import Derived.Test.YtglbcejcibohpaaE
import Derived.Carry
/-! Rows of one's own; Other. -/
namespace Go.Proofs.Ytglbcejcibohpaa
open Go.RowKit
set_option linter.unusedVariables false
set_option linter.unusedSimpArgs false
def extsV (l : List Ext) : List Value := l.flatMap fun t => [.int .i64 t.1, .int .i64 t.2]
theorem extsV_len : ∀ l : List Ext, (extsV l).length = l.length * 2
  | [] => rfl
  | t :: l => by
    have := extsV_len l
    unfold extsV at this ⊢
    rw [List.flatMap_cons, List.length_append, this]; simp; omega
theorem extsV_app (l r : List Ext) : extsV l ++ extsV r = extsV (l ++ r) := by simp [extsV]
theorem extsV_snoc (l : List Ext) (t : Ext) : extsV l ++ [.int .i64 t.1, .int .i64 t.2] = extsV (l ++ [t]) := by simp [extsV]
theorem extsV_at : ∀ (l : List Ext) (j : Nat) (h : j < l.length), (extsV l)[j * 2]? = some (.int .i64 l[j].1) ∧ (extsV l)[j * 2 + 1]? = some (.int .i64 l[j].2)
  | [], j, h => by simp at h
  | t :: l, 0, h => ⟨rfl, rfl⟩
  | t :: l, j + 1, h => by
    have := extsV_at l j (by simpa using h)
    have e : extsV (t :: l) = [.int .i64 t.1, .int .i64 t.2] ++ extsV l := rfl
    rw [e]
    refine ⟨?_, ?_⟩
    · rw [List.getElem?_append_right (by simp; omega)]; simpa [show (j + 1) * 2 - 2 = j * 2 by omega] using this.1
    · rw [List.getElem?_append_right (by simp; omega)]; simpa [show (j + 1) * 2 + 1 - 2 = j * 2 + 1 by omega] using this.2
def AllI (l : List Ext) : Prop := ∀ e ∈ l, I64 e.1 ∧ I64 e.2
/-- A row of one's own, as it is read. -/
theorem RdE.own {w : World} {base n : Nat} {e : TypeId} {v : Value} {l : List Ext} (h : w.ownsRow base e 2 v n (extsV l)) (hI : AllI l) : ∃ A c, v = .slice A l.length c ∧ l.length ≤ c ∧ RdE w A l := by
  have hl : l.length = n := by have := h.1; rw [extsV_len] at this; omega
  rcases Joins.ownsRow_forms h with ⟨rfl, h0⟩ | ⟨g, cap, rfl⟩
  · obtain rfl : l = [] := List.eq_nil_of_length_eq_zero (by omega)
    exact ⟨none, 0, rfl, by simp, by simp, fun j hj => by simp at hj⟩
  · have hm : n ≤ maxLen := by
      rcases h.2 with ⟨_, h1⟩ | ⟨g', cap', cur, he, _, _, h1, h2, _⟩
      · omega
      · simp only [Value.slice.injEq] at he; omega
    refine ⟨_, cap, by rw [hl], by rw [hl]; exact own_cap h, by rw [hl]; exact hm, fun j hj => ⟨_, rfl, ?_⟩⟩
    obtain ⟨h1, h2⟩ := extsV_at l j hj
    have c1 := h.cells (g := g) rfl _ _ h1
    have c2 := h.cells (g := g) rfl _ _ h2
    rw [add_zero_off] at c1 c2 ⊢
    exact ⟨c1, c2, hI _ (List.getElem_mem hj)⟩
theorem own_below' {w w' : World} {B e size n : Nat} {v : Value} {xs : List Value} (h : w.ownsRow B e size v n xs) (hb : Below w.heap.size w w') : w'.ownsRow B e size v n xs := by
  refine ⟨h.1, ?_⟩
  rcases h.2 with hn | ⟨g, cap, cur, rfl, hb1, hgg, rest⟩
  · exact .inl hn
  · refine .inr ⟨g, cap, cur, rfl, hb1, ?_, rest⟩
    rw [hb.block g (Array.getElem?_eq_some_iff.1 hgg).1]
    exact hgg
theorem own_old {w : World} {B e size n : Nat} {v : Value} {xs : List Value} {k : Nat} (h : w.ownsRow B e size v n xs) (hk : v.ownBlock = some k) : k < w.heap.size := by
  rcases h.2 with ⟨rfl, _⟩ | ⟨g', cap, cur, rfl, hb, hh, _⟩
  · simp [Value.ownBlock] at hk
  · have : g' = k := by simpa [Value.ownBlock] using hk
    subst this
    exact (Array.getElem?_eq_some_iff.1 hh).1
theorem own_not {w : World} {B e g size n : Nat} {v : Value} {xs : List Value} {cs : Array Value} {t : TypeId} {fr : Nat × Nat} (h : w.ownsRow B e size v n xs) (hg : w.heap[g]? = some (.cells cs t fr)) (ht : t ≠ e) : v.ownBlock ≠ some g := by
  rcases h.2 with ⟨rfl, _⟩ | ⟨g', cap, cur, rfl, hb, hh, _⟩
  · simp [Value.ownBlock]
  · intro e'
    have : g' = g := by simpa [Value.ownBlock] using e'
    subst this
    rw [hh] at hg
    simp only [Option.some.injEq, Obj.cells.injEq] at hg
    exact ht hg.2.1.symm
theorem grown_heap {w w' : World} {row : Option Nat} {g : Nat} {o : Obj} (hg : w.grownBy w' row) (h : w.heap[g]? = some o) (hne : row ≠ some g) : w'.heap[g]? = some o :=
  (hg.block g (Array.getElem?_eq_some_iff.1 h).1 (fun e => hne e.symm)).trans h
theorem fr_of {w : World} {b : Nat} {cs : Array Value} {t : TypeId} (h : w.heap[b]? = some (.cells cs t (0, 0))) (i : Nat) : w.frozen? ⟨b, i, none⟩ = false := by simp [World.frozen?, h]
theorem info25 : (Try.prog.info? 25).map (fun i => (i.zero, i.size, i.bytes)) = some (some (.agg #[.int .i64 0, .int .i64 0]), 2, 16) := by kernel_rfl
theorem two_at (w : World) (a0 a1 : Value) (t : TypeId) (a : Nat) (ha : a = w.heap.size) : ∀ j u, [a0, a1][j]? = some u → (w.alloc (.cells #[a0, a1] t)).cell? ((⟨a, 0, none⟩ : Addr).add j) = some u := by
  intro j u h
  subst ha
  rw [add_zero_off]
  exact cell_new w _ t _ j u (by simpa using h)
theorem oneExt (d n : Int) : ∀ u ∈ [Value.int .i64 d, .int .i64 n], u.oneCell' = true := by
  intro u hu
  simp only [List.mem_cons, List.not_mem_nil, or_false] at hu
  rcases hu with rfl | rfl <;> rfl
theorem free_len {b : Int} : ∀ {l : List Ext} {p : Int}, freeF b p l → 0 < l.length → p + 2 * l.length ≤ b
  | [], _, _, h => by simp at h
  | e :: l, p, h, _ => by
    have h1 := h.1
    unfold liesE at h1
    rcases Nat.eq_zero_or_pos l.length with h0 | h0
    · rw [List.length_cons, h0]; omega
    · have := free_len h.2 h0
      rw [List.length_cons]; push_cast; omega
theorem free_small {b : Int} {l : List Ext} (h : freeE b l) (hb : b ≤ 4096) : l.length ≤ 2049 := by
  rcases Nat.eq_zero_or_pos l.length with h0 | h0
  · omega
  · have := free_len h h0; omega
theorem allI_free {b p : Int} {l : List Ext} (h : freeF b p l) (hb : b ≤ 4096) : AllI l := fun e he => by
  have := (freeF_lies h e he).1
  unfold liesE at this
  exact ⟨⟨by omega, by omega⟩, ⟨by omega, by omega⟩⟩
theorem otherF_nil (b a : Int) (h : a < b) : otherF b a [] = [(a, b - a)] := by unfold otherF; rw [if_pos h]
theorem otherF_nil' (b a : Int) (h : ¬ a < b) : otherF b a [] = [] := by unfold otherF; rw [if_neg h]
theorem otherF_cons (b a x y : Int) (l : List Ext) (h : a < x) : otherF b a ((x, y) :: l) = (a, x - a) :: otherF b (x + y) l := by rw [otherF, if_pos h]; rfl
theorem otherF_cons' (b a x y : Int) (l : List Ext) (h : ¬ a < x) : otherF b a ((x, y) :: l) = otherF b (x + y) l := by rw [otherF, if_neg h]; rfl
/-- The others, or why there are none. -/
def otherC (b : Int) (l : List Ext) : List Ext × Int := if checkE b l = 0 then (otherF b 0 l, 0) else ([], checkE b l)
theorem check_range (b : Int) (l : List Ext) : checkE b l = 0 ∨ checkE b l = 1 ∨ checkE b l = 100 := by
  unfold checkE; split
  · exact Or.inr (Or.inl rfl)
  · split
    · exact Or.inl rfl
    · exact Or.inr (Or.inr rfl)
theorem check_zero {b : Int} {l : List Ext} (h : checkE b l = 0) : (0 ≤ b ∧ b ≤ 4096) ∧ freeE b l := by
  unfold checkE at h
  split at h
  · omega
  · rename_i h1
    split at h
    · rename_i h2; exact ⟨by omega, h2⟩
    · omega
set_option maxRecDepth 100000 in
set_option maxHeartbeats 4000000 in
theorem other_any (b : Int) (l : List Ext) (A : Option Addr) (cap : Nat) (w : World) (hb : I64 b) (hr : RdE w A l) (hl : l.length ≤ cap) :
    Calls Try.prog 19 #[.int .i64 b, .slice A l.length cap] w fun e w' => ∃ v, e = .returned (.tuple #[v, .int .i64 (otherC b l).2]) ∧ w'.ownsRow w.heap.size 25 2 v (otherC b l).1.length (extsV (otherC b l).1) ∧ Below w.heap.size w w' := by
  obtain ⟨i0, hi, hz0, hz1, hz2⟩ := info_parts info25
  have CK := check_any b l A cap w hb hr hl
  have HR := Lib.hid hr
  have hm := hr.1
  clear hr
  by_cases hc : checkE b l = 0
  · obtain ⟨⟨b1, b2⟩, hf⟩ := check_zero hc
    rw [hc] at CK
    have eC : otherC b l = (otherF b 0 l, 0) := by unfold otherC; rw [if_pos hc]
    rw [eC]
    have hsm := free_small hf b2
    obtain ⟨T, hT⟩ : ∃ T, otherF b 0 l = T := ⟨_, rfl⟩
    simp only [hT]
    have HT := Lib.hid hT
    have HF := Lib.hid hf
    replace CK := Lib.hid CK
    clear hT eC hc hf
    go_enter Try.func19, Try.ntmps19
    go_wp2_with (first | (go_at_call 24; refine CK.out.mono ?_; rintro e w1 ⟨rfl, bb⟩) | fail)
    clear CK
    go_loopw [7, 8, 19] (fun lv av iv wr => ∃ (k : Nat) (a : Int) (p : List Ext), k ≤ l.length ∧ p.length ≤ k ∧ iv = .int .i64 k ∧ av = .int .i64 a ∧ 0 ≤ a ∧ a ≤ b ∧ wr.ownsRow w.heap.size 25 2 lv p.length (extsV p) ∧ p ++ otherF b a (l.drop k) = T ∧ Below w.heap.size w wr) (fun _ _ iv _ => l.length - (intOf iv).toNat)
    case atStart => exact ⟨0, 0, [], Nat.zero_le _, Nat.le_refl _, rfl, rfl, Int.le_refl _, b1, World.ownsRow_nil _ _ _ _, HT.out, bb⟩
    case round =>
      obtain ⟨k, a, p, hk, hpk, rfl, rfl, ha0, hab, hown, hp, hbel⟩ := hrel
      have hsr := hbel.size
      by_cases hlt : k < l.length
      · obtain ⟨ad, hAd, c0, c1, i1, i2⟩ := (HR.out.below hbel).2 k hlt
        subst hAd
        have hlie := (freeF_lies HF.out _ (List.getElem_mem hlt)).1
        rw [List.drop_eq_getElem_cons hlt] at hp
        obtain ⟨⟨x, y⟩, ht⟩ : ∃ t, l[k] = t := ⟨_, rfl⟩
        rw [ht] at c0 c1 hlie hp
        unfold liesE at hlie
        simp only at c0 c1 hlie
        obtain ⟨p1, p2, p3⟩ := hlie
        have HO := Lib.hid hown
        have Hp := Lib.hid hp
        clear ht i1 i2 hown hp
        have s2 : IntKind.i64.wrap (x + y) = x + y := IntWalk.i64_in _ (by omega)
        by_cases hx : a < x
        · have s1 : IntKind.i64.wrap (x - a) = x - a := IntWalk.i64_in _ (by omega)
          replace Hp := Lib.hid (show (p ++ [(a, x - a)]) ++ otherF b (x + y) (l.drop (k + 1)) = T by have := Hp.out; rw [otherF_cons _ _ _ _ _ hx] at this; rw [List.append_assoc]; exact this)
          go_wp2_with (first | (at_builtin; go_loud (refine wpList_append_own _ rfl (.tmp 27) (.tmp 34) 22 rfl w.heap.size 25 i0 (.agg #[.int .i64 0, .int .i64 0]) 2 16 Try.underlying22 hi hz0 hz1 hz2 rfl (by decide) _ p.length _ rfl ((HO.out.alloc _).alloc _) ⟨wr.heap.size + 1, 0, none⟩ 1 1 [.int .i64 (a), .int .i64 (x - a)] rfl rfl (two_at _ _ _ _ _ (by simp)) (oneExt _ _) (by unfold maxLen; omega) (by omega) (by simp; omega) ?_; intro v' w3 hown' hgrow _; have hb3 : Below w.heap.size w w3 := ((hbel.alloc hsr _).alloc (by simp; omega) _).grown hgrow (by simp; omega) (own_base' HO.out); have hcell := grown_heap hgrow (heap_old _ trivial (heap_new wr (eO x y) wr.heap.size rfl)) (fun e => by have h1 := own_old HO.out e; omega); have k0 : w3.cell? ⟨wr.heap.size, 0, none⟩ = some (.int .i64 x) := (by rw [Joins.cell_of_block hcell]; rfl); have k1 : w3.cell? ⟨wr.heap.size, 1, none⟩ = some (.int .i64 y) := (by rw [Joins.cell_of_block hcell]; rfl); have HO3 := Lib.hid hown'; clear hown' hgrow hcell)) | fail)
          clear s1 s2
          go_roundw
          case rel =>
            have ho := HO3.out
            rw [show [Value.int IntKind.i64 a, Value.int IntKind.i64 (x - a)] = [Value.int IntKind.i64 (a, x - a).1, Value.int IntKind.i64 (a, x - a).2] from rfl, extsV_snoc] at ho
            exact ⟨k + 1, x + y, p ++ [(a, x - a)], by omega, by simp; omega, by go_num, rfl, by omega, by omega, by simpa using ho, Hp.out, hb3⟩
          case measure => simp [intOf]; omega
        · replace Hp := Lib.hid (show p ++ otherF b (x + y) (l.drop (k + 1)) = T by have := Hp.out; rw [otherF_cons' _ _ _ _ _ hx] at this; exact this)
          go_wp2
          clear s2
          go_roundw
          case rel => exact ⟨k + 1, x + y, p, by omega, by omega, by go_num, rfl, by omega, by omega, HO.out.alloc _, Hp.out, hbel.alloc hsr _⟩
          case measure => simp [intOf]; omega
      · rw [List.drop_eq_nil_of_le (by omega)] at hp
        have HO := Lib.hid hown
        by_cases hx : a < b
        · rw [otherF_nil _ _ hx] at hp
          have s1 : IntKind.i64.wrap (b - a) = b - a := IntWalk.i64_in _ (by omega)
          subst hp
          clear hown
          go_wp2_with (first | (at_builtin; go_loud (refine wpList_append_own _ rfl (.tmp 45) (.tmp 51) 22 rfl w.heap.size 25 i0 (.agg #[.int .i64 0, .int .i64 0]) 2 16 Try.underlying22 hi hz0 hz1 hz2 rfl (by decide) _ p.length _ rfl (HO.out.alloc _) ⟨wr.heap.size, 0, none⟩ 1 1 [.int .i64 (a), .int .i64 (b - a)] rfl rfl (two_at _ _ _ _ _ (by simp)) (oneExt _ _) (by unfold maxLen; omega) (by omega) (by simp; omega) ?_; intro v' w3 hown' hgrow _; have hb3 : Below w.heap.size w w3 := (hbel.alloc hsr _).grown hgrow (by simp; omega) (own_base' HO.out); have HO3 := Lib.hid hown'; clear hown' hgrow)) | fail)
          go_ret2
          have ho := HO3.out
          rw [show [Value.int IntKind.i64 a, Value.int IntKind.i64 (b - a)] = [Value.int IntKind.i64 (a, b - a).1, Value.int IntKind.i64 (a, b - a).2] from rfl, extsV_snoc] at ho
          exact ⟨_, rfl, by simpa using ho, hb3⟩
        · rw [otherF_nil' _ _ hx, List.append_nil] at hp
          subst hp
          go_wp2
          go_ret2
          exact ⟨_, rfl, hown, hbel⟩
  · have eC : otherC b l = ([], checkE b l) := by unfold otherC; rw [if_neg hc]
    rw [eC]
    obtain ⟨c, hcc⟩ : ∃ c, checkE b l = c := ⟨_, rfl⟩
    have h3 := check_range b l
    rw [hcc] at CK hc h3 ⊢
    simp only
    have hd : decide (c = 0) = false := decide_eq_false hc
    clear hcc eC
    replace CK := Lib.hid CK
    go_enter Try.func19, Try.ntmps19
    go_wp2_with (first | (go_at_call 24; refine CK.out.mono ?_; rintro e w1 ⟨rfl, bb⟩) | fail)
    go_ret2
    exact ⟨_, rfl, World.ownsRow_nil _ _ _ _, bb⟩
end Go.Proofs.Ytglbcejcibohpaa
