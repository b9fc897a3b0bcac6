import Derived.Test.YtebmnfffmpiceaaH
import Derived.Test.YtebmnfffmpiceaaI6
/-! The document's Tokens; Longest; cuts. -/
namespace Go.Proofs.Ytebmnfffmpiceaa
open Go.RowKit
set_option linter.unusedVariables false
set_option linter.unusedSimpArgs false
theorem own_below' {w w' : World} {B e size n : Nat} {v : Value} {xs : List Value} (h : w.ownsRow B e size v n xs) (hb : Below w.heap.size w w') : w'.ownsRow B e size v n xs := by
  refine ⟨h.1, ?_⟩
  rcases h.2 with hn | ⟨g, cap, cur, rfl, hb1, hgg, rest⟩
  · exact .inl hn
  · refine .inr ⟨g, cap, cur, rfl, hb1, ?_, rest⟩
    rw [hb.block g (Array.getElem?_eq_some_iff.1 hgg).1]
    exact hgg
set_option maxRecDepth 100000 in
set_option maxHeartbeats 4000000 in
theorem rtokens_ok (b : By) (A : Option Addr) (cap : Nat) (w : World) (hr : RdB w A b) (hl : b.length ≤ cap) (hs : b.length ≤ 65536) :
    Calls Try.prog 12 #[.slice A b.length cap] w fun e w' => ∃ v, e = .returned (.tuple #[v, .int .i64 0]) ∧ w'.ownsRow w.heap.size 38 3 v (toks b 0).length (toksV (toks b 0)) ∧ Below w.heap.size w w' := by
  obtain ⟨i0, hi, hz0, hz1, hz2⟩ := info_parts info38
  have Hr := Lib.hid hr
  have hm := hr.1
  obtain ⟨T, hT⟩ : ∃ T, toks b 0 = T := ⟨_, rfl⟩
  rw [hT]
  have HT := Lib.hid hT
  clear hr hT
  go_enter Try.func12, Try.ntmps12
  go_wp2
  go_loopw [4, 5] (fun lv av wr => ∃ (at' : Nat) (p : List Tok), at' ≤ b.length ∧ p.length ≤ at' ∧ av = .int .i64 at' ∧ wr.ownsRow w.heap.size 38 3 lv p.length (toksV p) ∧ p ++ toks b at' = T ∧ Below w.heap.size w wr) (fun _ av _ => b.length - (intOf av).toNat)
  case atStart => exact ⟨0, [], Nat.zero_le _, Nat.le_refl _, rfl, World.ownsRow_nil _ _ _ _, HT.out, Below.refl _ _⟩
  case round =>
    obtain ⟨at', p, hat, hpa, rfl, hown, hp, hbel⟩ := hrel
    have hsr := hbel.size
    by_cases hlt : at' < b.length
    · obtain ⟨ad, hAd, hx⟩ := RdB.at' Hr.out at' hlt
      subst hAd
      have hrd : RdB wr (some ad) b := RdR.below (R' := EqB) Hr.out hbel (fun _ _ h => h)
      have hcons := toks_cons b at' hlt
      have hroom := longT_room b at' hlt
      have hlen : 1 ≤ (longT b at').2 := (foldT_len b at' at').1
      have htl := tokOf_len b at' (longT b at')
      have TK := rlong_any b ad cap at' wr hrd hl hs hlt
      obtain ⟨L, hL⟩ : ∃ L, (longT b at').2 = L := ⟨_, rfl⟩
      rw [hL] at hroom hlen htl hcons
      obtain ⟨⟨d, l, y⟩, htk⟩ : ∃ t, tokOf b at' (longT b at') = t := ⟨_, rfl⟩
      rw [htk] at hcons htl TK
      simp only at htl
      subst htl
      rw [hcons] at hp
      have Hp := Lib.hid hp
      replace TK := Lib.hid TK
      have HO := Lib.hid hown
      clear hL htk hcons hp hx hown hrd
      go_wp2_with (first | (go_at_call 26; refine TK.out.mono ?_; rintro e w2 ⟨rfl, bb⟩; have HO2 := Lib.hid (own_below' HO.out bb); have hb2 : Below w.heap.size w w2 := hbel.trans (bb.mono hsr); have hs2 := hb2.size; clear bb) | (at_builtin; go_loud (refine wpList_append_own _ rfl (.tmp 17) (.tmp 19) 24 rfl w.heap.size 38 i0 (.agg #[.int .i64 0, .int .i64 0, .int .u8 0]) 3 24 Try.underlying24 hi hz0 hz1 hz2 rfl (by decide) _ p.length _ rfl ((HO2.out.alloc _).alloc _) ⟨w2.heap.size + 1, 0, none⟩ 1 1 [.int .i64 d, .int .i64 L, .int .u8 y.toNat] rfl rfl (three_at _ _ _ _ _ _ (by simp)) (oneTok _ _ _) (by unfold maxLen; omega) (by omega) (by simp; omega) ?_; intro v' w3 hown' hgrow _; have hb3 : Below w.heap.size w w3 := ((hb2.alloc hs2 _).alloc (by simp; omega) _).grown hgrow (by simp; omega) (own_base' HO2.out); have hcell := grown_heap hgrow (heap_old _ trivial (heap_new w2 (tO d L y) w2.heap.size rfl)) (fun e => by have h1 := own_old HO2.out e; omega); have k0 : w3.cell? ⟨w2.heap.size, 1, none⟩ = some (.int .i64 L) := (by rw [Joins.cell_of_block hcell]; rfl); have HO3 := Lib.hid hown'; clear hown' hgrow hcell)) | fail)
      go_roundw
      case rel =>
        have ho := HO3.out
        rw [show [Value.int IntKind.i64 d, Value.int IntKind.i64 L, Value.int IntKind.u8 y.toNat] = [Value.int IntKind.i64 (d, (L : Int), y).1, Value.int IntKind.i64 (d, (L : Int), y).2.1, Value.int IntKind.u8 (d, (L : Int), y).2.2.toNat] from rfl, toksV_snoc] at ho
        exact ⟨at' + L, p ++ [(d, (L : Int), y)], by omega, by simp; omega, by go_num, by simpa using ho, by rw [List.append_assoc]; exact Hp.out, hb3⟩
      case measure => simp [intOf]; omega
    · go_wp2
      go_ret2
      rw [toks_end b at' (by omega), List.append_nil] at hp
      subst hp
      exact ⟨_, rfl, hown, hbel⟩
/-- The token at a place, or why there is none. -/
def longE (b : By) (a : Int) : Tok × Int := if 65536 < b.length then ((0, 0, 0), 2) else if a < 0 ∨ (b.length : Int) ≤ a then ((0, 0, 0), 5) else (tokOf b a.toNat (longT b a.toNat), 0)
theorem cut_any (b : By) (A : Option Addr) (cap : Nat) (w : World) (hl : b.length ≤ cap) (hm : b.length ≤ 9223372036854775807) :
    Calls Try.prog 10 #[.slice A b.length cap] w fun e w' => e = .returned (.slice A (b.take 1500).length cap) ∧ w = w' := by
  by_cases h : 1500 < b.length
  · have e : (b.take 1500).length = 1500 := by rw [List.length_take]; omega
    rw [e]
    go_enter Try.func10, Try.ntmps10
    go_wp2
    go_ret
    exact ⟨rfl, rfl⟩
  · have e : (b.take 1500).length = b.length := by rw [List.length_take]; omega
    rw [e]
    go_enter Try.func10, Try.ntmps10
    go_wp2
    go_ret
    exact ⟨rfl, rfl⟩
theorem few_any (l : List Tok) (A : Option Addr) (cap : Nat) (w : World) (hl : l.length ≤ cap) (hm : l.length ≤ 9223372036854775807) :
    Calls Try.prog 15 #[.slice A l.length cap] w fun e w' => e = .returned (.slice A (l.take 400).length cap) ∧ w = w' := by
  by_cases h : 400 < l.length
  · have e : (l.take 400).length = 400 := by rw [List.length_take]; omega
    rw [e]
    go_enter Try.func15, Try.ntmps15
    go_wp2
    go_ret
    exact ⟨rfl, rfl⟩
  · have e : (l.take 400).length = l.length := by rw [List.length_take]; omega
    rw [e]
    go_enter Try.func15, Try.ntmps15
    go_wp2
    go_ret
    exact ⟨rfl, rfl⟩
theorem longest_any (b : By) (A : Option Addr) (cap : Nat) (a : Int) (w : World) (hr : RdB w A b) (hl : b.length ≤ cap) (ha : -9223372036854775808 ≤ a ∧ a ≤ 9223372036854775807) :
    Calls Try.prog 19 #[.slice A b.length cap, .int .i64 a] w fun e w' => e = .returned (.tuple #[tokV (longE b a).1, .int .i64 (longE b a).2]) ∧ Below w.heap.size w w' := by
  have hm := hr.1
  obtain ⟨a1, a2⟩ := ha
  have Hr := Lib.hid hr
  clear hr
  by_cases h1 : 65536 < b.length
  · have e : longE b a = ((0, 0, 0), 2) := by unfold longE; rw [if_pos h1]
    rw [e]
    clear e
    go_enter Try.func19, Try.ntmps19
    go_wp2
    exact bodyPost_ret (v := .tuple #[.agg #[.int .i64 0, .int .i64 0, .int .u8 0], .int .i64 2]) (by simp [results, Try.results19, go_sem]) rfl ⟨rfl, (Below.refl _ _).alloc (Nat.le_refl _) _⟩
  · by_cases h2 : a < 0 ∨ (b.length : Int) ≤ a
    · have e : longE b a = ((0, 0, 0), 5) := by unfold longE; rw [if_neg h1, if_pos h2]
      rw [e]
      clear e
      have h3 : a < 0 ∨ (0 ≤ a ∧ (b.length : Int) ≤ a) := by omega
      clear h2
      rcases h3 with h3 | ⟨h3, h4⟩
      · have b1 : decide (a < 0) = true := by simp; omega
        go_enter Try.func19, Try.ntmps19
        go_wp2
        exact bodyPost_ret (v := .tuple #[.agg #[.int .i64 0, .int .i64 0, .int .u8 0], .int .i64 5]) (by simp [results, Try.results19, go_sem]) rfl ⟨rfl, (Below.refl _ _).alloc (Nat.le_refl _) _⟩
      · have b1 : decide (a < 0) = false := by simp; omega
        go_enter Try.func19, Try.ntmps19
        go_wp2
        exact bodyPost_ret (v := .tuple #[.agg #[.int .i64 0, .int .i64 0, .int .u8 0], .int .i64 5]) (by simp [results, Try.results19, go_sem]) rfl ⟨rfl, (Below.refl _ _).alloc (Nat.le_refl _) _⟩
    · obtain ⟨k, rfl⟩ := Int.eq_ofNat_of_zero_le (show 0 ≤ a by omega)
      have hk : k < b.length := by omega
      have e : longE b (k : Int) = (tokOf b k (longT b k), 0) := by unfold longE; rw [if_neg h1, if_neg h2, Int.toNat_natCast]
      rw [e]
      clear e h2
      have b1 : decide ((k : Int) < 0) = false := by simp
      have b2 : decide ((b.length : Int) ≤ (k : Int)) = false := by simp; omega
      obtain ⟨ad, hAd, hx⟩ := RdB.at' Hr.out k hk
      subst hAd
      have hAB : ad.block < w.heap.size := by have := World.block_lt_of_cell? w _ hx; rw [ChangeShapes.block_add] at this; exact this
      clear hx
      have hb0 : Below w.heap.size w (w.alloc (.cells #[.int .i64 0, .int .i64 0, .int .u8 0] 38)) := (Below.refl _ _).alloc (Nat.le_refl _) _
      obtain ⟨W, hW⟩ : ∃ W, w.alloc (.cells #[.int .i64 0, .int .i64 0, .int .u8 0] 38) = W := ⟨_, rfl⟩
      have hX : W.heap[w.heap.size]? = some (.cells #[.int .i64 0, .int .i64 0, .int .u8 0] 38) := by subst hW; exact heap_new _ _ _ rfl
      have hsW : w.heap.size + 1 ≤ W.heap.size := by subst hW; simp
      rw [hW] at hb0
      have hrd : RdB W (some ad) b := RdR.below (R' := EqB) Hr.out hb0 (fun _ _ h => h)
      have HX := Lib.hid hX
      have Hrd := Lib.hid hrd
      have TK := fun w1 (h : Below W.heap.size W w1) hf => token_any b ad cap (W.heap.size + 1) W.heap.size W.heap.size 0 k (.slice none 0 0) (.map []) w1 (RdR.below (R' := EqB) hrd h (fun _ _ h => h)) hl (by omega) h.size (by omega) hf hk (Nat.zero_le _)
      obtain ⟨⟨d, l, y⟩, htk⟩ : ∃ t, tokOf b k (longT b k) = t := ⟨_, rfl⟩
      rw [htk] at TK ⊢
      replace TK := Lib.hid TK
      clear hX hrd htk
      go_enter Try.func19, Try.ntmps19
      go_wp2_with fail
      clear hW
      refine (find_any b (some ad) cap W).mono ?_
      rintro e w1 ⟨rfl, hf, b1⟩
      have HF := Lib.hid hf
      clear hf
      go_wp2_with (first | (go_at_call 25; refine (TK.out _ b1 HF.out).mono ?_; rintro e w2 ⟨rfl, _, mv⟩; have b2 : Below W.heap.size W w2 := b1.trans (mv.below b1.size); have hX2 : w2.heap[w.heap.size]? = some (.cells #[.int .i64 0, .int .i64 0, .int .u8 0] 38) := (b2.block _ (by omega)).trans HX.out; have c0 : w2.cell? ⟨w.heap.size, 0, none⟩ = some (.int .i64 0) := (by rw [Joins.cell_of_block hX2]; rfl); have c1 : w2.cell? ⟨w.heap.size, 1, none⟩ = some (.int .i64 0) := (by rw [Joins.cell_of_block hX2]; rfl); have c2 : w2.cell? ⟨w.heap.size, 2, none⟩ = some (.int .u8 0) := (by rw [Joins.cell_of_block hX2]; rfl); have f0 := fr_of hX2 0; have f1 := fr_of hX2 1; have f2 := fr_of hX2 2; have HX2 := Lib.hid hX2; clear mv hX2) | fail)
      exact bodyPost_ret (v := .tuple #[.agg #[.int .i64 d, .int .i64 l, .int .u8 y.toNat], .int .i64 0]) (by simp [results, Try.results19, go_sem, c0, c1, c2]) rfl ⟨rfl, below_set3 (hb0.trans (b2.mono (by omega))) (Nat.le_refl _) _ _ _⟩
theorem rlongest_any (b : By) (A : Option Addr) (cap : Nat) (a : Int) (w : World) (hr : RdB w A b) (hl : b.length ≤ cap) (ha : -9223372036854775808 ≤ a ∧ a ≤ 9223372036854775807) :
    Calls Try.prog 20 #[.slice A b.length cap, .int .i64 a] w fun e w' => e = .returned (.tuple #[tokV (longE b a).1, .int .i64 (longE b a).2]) ∧ Below w.heap.size w w' := by
  have hm := hr.1
  obtain ⟨a1, a2⟩ := ha
  have Hr := Lib.hid hr
  clear hr
  by_cases h1 : 65536 < b.length
  · have e : longE b a = ((0, 0, 0), 2) := by unfold longE; rw [if_pos h1]
    rw [e]
    clear e
    go_enter Try.func20, Try.ntmps20
    go_wp2
    exact bodyPost_ret (v := .tuple #[.agg #[.int .i64 0, .int .i64 0, .int .u8 0], .int .i64 2]) (by simp [results, Try.results20, go_sem]) rfl ⟨rfl, (Below.refl _ _).alloc (Nat.le_refl _) _⟩
  · by_cases h2 : a < 0 ∨ (b.length : Int) ≤ a
    · have e : longE b a = ((0, 0, 0), 5) := by unfold longE; rw [if_neg h1, if_pos h2]
      rw [e]
      clear e
      have h3 : a < 0 ∨ (0 ≤ a ∧ (b.length : Int) ≤ a) := by omega
      clear h2
      rcases h3 with h3 | ⟨h3, h4⟩
      · have b1 : decide (a < 0) = true := by simp; omega
        go_enter Try.func20, Try.ntmps20
        go_wp2
        exact bodyPost_ret (v := .tuple #[.agg #[.int .i64 0, .int .i64 0, .int .u8 0], .int .i64 5]) (by simp [results, Try.results20, go_sem]) rfl ⟨rfl, (Below.refl _ _).alloc (Nat.le_refl _) _⟩
      · have b1 : decide (a < 0) = false := by simp; omega
        go_enter Try.func20, Try.ntmps20
        go_wp2
        exact bodyPost_ret (v := .tuple #[.agg #[.int .i64 0, .int .i64 0, .int .u8 0], .int .i64 5]) (by simp [results, Try.results20, go_sem]) rfl ⟨rfl, (Below.refl _ _).alloc (Nat.le_refl _) _⟩
    · obtain ⟨k, rfl⟩ := Int.eq_ofNat_of_zero_le (show 0 ≤ a by omega)
      have hk : k < b.length := by omega
      have e : longE b (k : Int) = (tokOf b k (longT b k), 0) := by unfold longE; rw [if_neg h1, if_neg h2, Int.toNat_natCast]
      rw [e]
      clear e h2
      have b1 : decide ((k : Int) < 0) = false := by simp
      have b2 : decide ((b.length : Int) ≤ (k : Int)) = false := by simp; omega
      obtain ⟨ad, hAd, hx⟩ := RdB.at' Hr.out k hk
      subst hAd
      have hAB : ad.block < w.heap.size := by have := World.block_lt_of_cell? w _ hx; rw [ChangeShapes.block_add] at this; exact this
      clear hx
      have hb0 : Below w.heap.size w (w.alloc (.cells #[.int .i64 0, .int .i64 0, .int .u8 0] 38)) := (Below.refl _ _).alloc (Nat.le_refl _) _
      obtain ⟨W, hW⟩ : ∃ W, w.alloc (.cells #[.int .i64 0, .int .i64 0, .int .u8 0] 38) = W := ⟨_, rfl⟩
      have hX : W.heap[w.heap.size]? = some (.cells #[.int .i64 0, .int .i64 0, .int .u8 0] 38) := by subst hW; exact heap_new _ _ _ rfl
      have hsW : w.heap.size + 1 ≤ W.heap.size := by subst hW; simp
      rw [hW] at hb0
      have hrd : RdB W (some ad) b := RdR.below (R' := EqB) Hr.out hb0 (fun _ _ h => h)
      have HX := Lib.hid hX
      have TK := rlong_any b ad cap k W hrd hl (by omega) hk
      obtain ⟨⟨d, l, y⟩, htk⟩ : ∃ t, tokOf b k (longT b k) = t := ⟨_, rfl⟩
      rw [htk] at TK ⊢
      replace TK := Lib.hid TK
      clear hX hrd htk
      go_enter Try.func20, Try.ntmps20
      go_wp2_with fail
      clear hW
      refine TK.out.mono ?_
      rintro e w2 ⟨rfl, b2⟩
      have hX2 : w2.heap[w.heap.size]? = some (.cells #[.int .i64 0, .int .i64 0, .int .u8 0] 38) := (b2.block _ (by omega)).trans HX.out
      have c0 : w2.cell? ⟨w.heap.size, 0, none⟩ = some (.int .i64 0) := (by rw [Joins.cell_of_block hX2]; rfl)
      have c1 : w2.cell? ⟨w.heap.size, 1, none⟩ = some (.int .i64 0) := (by rw [Joins.cell_of_block hX2]; rfl)
      have c2 : w2.cell? ⟨w.heap.size, 2, none⟩ = some (.int .u8 0) := (by rw [Joins.cell_of_block hX2]; rfl)
      have f0 := fr_of hX2 0
      have f1 := fr_of hX2 1
      have f2 := fr_of hX2 2
      clear hX2
      go_wp2_with fail
      exact bodyPost_ret (v := .tuple #[.agg #[.int .i64 d, .int .i64 l, .int .u8 y.toNat], .int .i64 0]) (by simp [results, Try.results20, go_sem, c0, c1, c2]) rfl ⟨rfl, below_set3 (hb0.trans (b2.mono (by omega))) (Nat.le_refl _) _ _ _⟩
end Go.Proofs.Ytebmnfffmpiceaa
