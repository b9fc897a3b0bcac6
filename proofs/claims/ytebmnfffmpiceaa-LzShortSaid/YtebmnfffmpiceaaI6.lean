import Derived.Test.YtebmnfffmpiceaaG
import Derived.Carry
/-! find, Tokens. -/
namespace Go.Proofs.Ytebmnfffmpiceaa
open Go.RowKit
set_option linter.unusedVariables false
set_option linter.unusedSimpArgs false
theorem find_any (b : By) (A : Option Addr) (cap : Nat) (w : World) :
    Calls Try.prog 24 #[.slice A b.length cap] w fun e w' => e = .returned (.pointer (some ⟨w.heap.size + 1, 0, none⟩)) ∧ Fd w' (w.heap.size + 1) w.heap.size w.heap.size b A cap 0 (.slice none 0 0) (.map []) ∧ Below w.heap.size w w' := by
  have hmm := @run_makeMap Try.prog
  go_enter Try.func24, Try.ntmps24
  go_wp2
  go_ret
  exact ⟨rfl, ⟨heap_new _ _ _ (by simp), World.ownsRow_nil _ _ _ _, (World.ownsMap_made w Try.prog 58 _).alloc _, MapOk.empty b, by omega, Nat.le_refl _⟩, ((Below.refl _ _).alloc (Nat.le_refl _) _).alloc (by simp) _⟩
def toksV (l : List Tok) : List Value := l.flatMap fun t => [.int .i64 t.1, .int .i64 t.2.1, .int .u8 t.2.2.toNat]
theorem toksV_len : ∀ l : List Tok, (toksV l).length = l.length * 3
  | [] => rfl
  | t :: l => by
    have := toksV_len l
    unfold toksV at this ⊢
    rw [List.flatMap_cons, List.length_append, this]; simp; omega
theorem toksV_snoc (l : List Tok) (t : Tok) : toksV l ++ [.int .i64 t.1, .int .i64 t.2.1, .int .u8 t.2.2.toNat] = toksV (l ++ [t]) := by simp [toksV]
theorem toksV_at : ∀ (l : List Tok) (j : Nat) (h : j < l.length), (toksV l)[j * 3]? = some (.int .i64 l[j].1) ∧ (toksV l)[j * 3 + 1]? = some (.int .i64 l[j].2.1) ∧ (toksV l)[j * 3 + 2]? = some (.int .u8 l[j].2.2.toNat)
  | [], j, h => by simp at h
  | t :: l, 0, h => ⟨rfl, rfl, rfl⟩
  | t :: l, j + 1, h => by
    have := toksV_at l j (by simpa using h)
    have e : toksV (t :: l) = [.int .i64 t.1, .int .i64 t.2.1, .int .u8 t.2.2.toNat] ++ toksV l := rfl
    rw [e]
    refine ⟨?_, ?_, ?_⟩
    · rw [List.getElem?_append_right (by simp; omega)]; simpa [show (j + 1) * 3 - 3 = j * 3 by omega] using this.1
    · rw [List.getElem?_append_right (by simp; omega)]; simpa [show (j + 1) * 3 + 1 - 3 = j * 3 + 1 by omega] using this.2.1
    · rw [List.getElem?_append_right (by simp; omega)]; simpa [show (j + 1) * 3 + 2 - 3 = j * 3 + 2 by omega] using this.2.2
/-- A row of one's own, as it is read. -/
theorem RdT.own {w : World} {base n : Nat} {e : TypeId} {v : Value} {l : List Tok} (h : w.ownsRow base e 3 v n (toksV l)) : ∃ A c, v = .slice A l.length c ∧ l.length ≤ c ∧ RdT w A l := by
  have hl : l.length = n := by have := h.1; rw [toksV_len] at this; omega
  rcases Joins.ownsRow_forms h with ⟨rfl, h0⟩ | ⟨g, cap, rfl⟩
  · obtain rfl : l = [] := List.eq_nil_of_length_eq_zero (by omega)
    exact ⟨none, 0, rfl, by simp, by simp, fun j hj => by simp at hj⟩
  · have hm : n ≤ maxLen := by
      rcases h.2 with ⟨_, h1⟩ | ⟨g', cap', cur, he, _, _, h1, h2, _⟩
      · omega
      · simp only [Value.slice.injEq] at he; omega
    refine ⟨_, cap, by rw [hl], by rw [hl]; exact own_cap h, by rw [hl]; exact hm, fun j hj => ⟨_, rfl, ?_⟩⟩
    obtain ⟨h1, h2, h3⟩ := toksV_at l j hj
    have c1 := h.cells (g := g) rfl _ _ h1
    have c2 := h.cells (g := g) rfl _ _ h2
    have c3 := h.cells (g := g) rfl _ _ h3
    rw [add_zero_off] at c1 c2 c3 ⊢
    exact ⟨c1, c2, c3⟩
theorem info38 : (Try.prog.info? 38).map (fun i => (i.zero, i.size, i.bytes)) = some (some (.agg #[.int .i64 0, .int .i64 0, .int .u8 0]), 3, 24) := by kernel_rfl
theorem Fd.grown {w w' : World} {g m B : Nat} {b : By} {A : Option Addr} {cap n : Nat} {v : Value} {D : Dm} (h : Fd w g m B b A cap n v D) {B' q : Nat} {u : Value} {xs : List Value} (hu : w.ownsRow B' 38 3 u q xs) (hg : w.grownBy w' u.ownBlock) : Fd w' g m B b A cap n v D := by
  obtain ⟨h1, h2, h3, h4, h5⟩ := h
  refine ⟨grown_heap hg h1 (own_not hu h1 (by decide)), h2.kept hg ?_, h3.kept hg (Ne.symm (own_notmap hu h3)), h4, h5⟩
  rcases h2.2 with ⟨rfl, _⟩ | ⟨g', cap', cur, rfl, _, hh, _⟩
  · left; rfl
  · right
    exact fun e => own_not hu hh (by decide) (by rw [← e]; rfl)
theorem own_moved {B B' g m : Nat} {w w' : World} {e size n : Nat} {v : Value} {xs : List Value} (h : w.ownsRow B' e size v n xs) (he : e ≠ 3) (hmv : Mv B g m w w') {cs : Array Value} {t : TypeId} {fr : Nat × Nat} (hg : w.heap[g]? = some (.cells cs t fr)) (ht : t ≠ e) {k : TypeId} {R : Value → Option (Dm × List MemPlace)} {q : Nat} {D : Dm} (hm : w.ownsMap Try.prog k R m q D) : w'.ownsRow B' e size v n xs := by
  refine ⟨h.1, ?_⟩
  rcases h.2 with hn | ⟨g', cap, cur, rfl, hb1, hgg, rest⟩
  · exact .inl hn
  · refine .inr ⟨g', cap, cur, rfl, hb1, hmv.keeps hgg he ?_ ?_, rest⟩
    · rintro rfl
      exact own_not h hg ht rfl
    · rintro rfl
      exact own_notmap h hm rfl
theorem three_at (w : World) (a0 a1 a2 : Value) (t : TypeId) (a : Nat) (ha : a = w.heap.size) : ∀ j u, [a0, a1, a2][j]? = some u → (w.alloc (.cells #[a0, a1, a2] t)).cell? ((⟨a, 0, none⟩ : Addr).add j) = some u := by
  intro j u h
  subst ha
  rw [add_zero_off]
  exact cell_new w _ t _ j u (by simpa using h)
theorem oneTok (d n : Int) (x : BitVec 8) : ∀ u ∈ [Value.int .i64 d, .int .i64 n, .int .u8 x.toNat], u.oneCell' = true := by
  intro u hu
  simp only [List.mem_cons, List.not_mem_nil, or_false] at hu
  rcases hu with rfl | rfl | rfl <;> rfl
theorem own_old {w : World} {B e size n : Nat} {v : Value} {xs : List Value} {k : Nat} (h : w.ownsRow B e size v n xs) (hk : v.ownBlock = some k) : k < w.heap.size := by
  rcases h.2 with ⟨rfl, _⟩ | ⟨g', cap, cur, rfl, hb, hh, _⟩
  · simp [Value.ownBlock] at hk
  · have : g' = k := by simpa [Value.ownBlock] using hk
    subst this
    exact (Array.getElem?_eq_some_iff.1 hh).1

set_option maxRecDepth 100000 in
set_option maxHeartbeats 4000000 in
theorem tokens_ok (b : By) (A : Option Addr) (cap : Nat) (w : World) (hr : RdB w A b) (hl : b.length ≤ cap) (hs : b.length ≤ 65536) :
    Calls Try.prog 11 #[.slice A b.length cap] w fun e w' => ∃ v, e = .returned (.tuple #[v, .int .i64 0]) ∧ w'.ownsRow w.heap.size 38 3 v (toks b 0).length (toksV (toks b 0)) ∧ Below w.heap.size w w' := by
  obtain ⟨i0, hi, hz0, hz1, hz2⟩ := info_parts info38
  have Hr := Lib.hid hr
  have hm := hr.1
  obtain ⟨T, hT⟩ : ∃ T, toks b 0 = T := ⟨_, rfl⟩
  rw [hT]
  have HT := Lib.hid hT
  clear hr hT
  go_enter Try.func11, Try.ntmps11
  go_wp2_with (first | (go_at_call 24; refine (find_any b A cap _).mono ?_; rintro e w1 ⟨rfl, hf, b1⟩; have HF := Lib.hid hf; clear hf) | fail)
  have s1 := b1.size
  go_loopw [5, 6] (fun lv av wr => ∃ (at' n : Nat) (v : Value) (D : Dm) (p : List Tok), at' ≤ b.length ∧ n ≤ at' ∧ p.length ≤ at' ∧ av = .int .i64 at' ∧ Fd wr (w.heap.size + 1) w.heap.size w.heap.size b A cap n v D ∧ wr.ownsRow w.heap.size 38 3 lv p.length (toksV p) ∧ p ++ toks b at' = T ∧ Below w.heap.size w wr) (fun _ av _ => b.length - (intOf av).toNat)
  case atStart => exact ⟨0, 0, _, _, [], Nat.zero_le _, Nat.le_refl _, Nat.le_refl _, rfl, HF.out, World.ownsRow_nil _ _ _ _, HT.out, b1⟩
  case round =>
    obtain ⟨at', n, v, D, p, hat, hna, hpa, rfl, hf, hown, hp, hbel⟩ := hrel
    have hsr := hbel.size
    by_cases hlt : at' < b.length
    · obtain ⟨ad, hAd, hx⟩ := RdB.at' Hr.out at' hlt
      have hAB : ad.block < w.heap.size := by have := World.block_lt_of_cell? w _ hx; rw [ChangeShapes.block_add] at this; exact this
      subst hAd
      have hrd : RdB wr (some ad) b := RdR.below (R' := EqB) Hr.out hbel (fun _ _ h => h)
      have hcons := toks_cons b at' hlt
      have hroom := longT_room b at' hlt
      have hlen : 1 ≤ (longT b at').2 := (foldT_len b at' at').1
      have htl := tokOf_len b at' (longT b at')
      have TK := token_any b ad cap (w.heap.size + 1) w.heap.size w.heap.size n at' v D wr hrd hl hs hsr hAB hf hlt hna
      obtain ⟨L, hL⟩ : ∃ L, (longT b at').2 = L := ⟨_, rfl⟩
      rw [hL] at hroom hlen htl hcons
      obtain ⟨⟨d, l, y⟩, htk⟩ : ∃ t, tokOf b at' (longT b at') = t := ⟨_, rfl⟩
      rw [htk] at hcons htl TK
      simp only at htl
      subst htl
      rw [hcons] at hp
      have Hp := Lib.hid hp
      have TK := Lib.hid TK
      have HO := Lib.hid hown
      have HF := Lib.hid hf
      clear hL htk hcons hp hx hown hf hrd
      go_wp2_with (first | (go_at_call 25; refine TK.out.mono ?_; rintro e w2 ⟨rfl, ⟨v2, D2, hf2⟩, mv2⟩; have HF2 := Lib.hid hf2; have HO2 := Lib.hid (own_moved HO.out (by decide) mv2 HF.out.1 (by decide) HF.out.2.2.1); have hb2 : Below w.heap.size w w2 := hbel.trans (mv2.below hsr); have hs2 := hb2.size; clear hf2 mv2) | (at_builtin; go_loud (refine wpList_append_own _ rfl (.tmp 20) (.tmp 22) 24 rfl w.heap.size 38 i0 (.agg #[.int .i64 0, .int .i64 0, .int .u8 0]) 3 24 Try.underlying24 hi hz0 hz1 hz2 rfl (by decide) _ p.length _ rfl ((HO2.out.alloc _).alloc _) ⟨w2.heap.size + 1, 0, none⟩ 1 1 [.int .i64 d, .int .i64 L, .int .u8 y.toNat] rfl rfl (three_at _ _ _ _ _ _ (by simp)) (oneTok _ _ _) (by unfold maxLen; omega) (by omega) (by simp; omega) ?_; intro v' w3 hown' hgrow _; have hf3 := Fd.grown ((HF2.out.alloc _).alloc _) ((HO2.out.alloc _).alloc _) hgrow; have hb3 : Below w.heap.size w w3 := ((hb2.alloc hs2 _).alloc (by simp; omega) _).grown hgrow (by simp; omega) (own_base' HO2.out); have hcell := grown_heap hgrow (heap_old _ trivial (heap_new w2 (tO d L y) w2.heap.size rfl)) (fun e => by have h1 := own_old HO2.out e; omega); have k0 : w3.cell? ⟨w2.heap.size, 1, none⟩ = some (.int .i64 L) := (by rw [Joins.cell_of_block hcell]; rfl); have HF3 := Lib.hid hf3; have HO3 := Lib.hid hown'; clear hf3 hown' hgrow hcell)) | fail)
      go_roundw
      case rel =>
        have ho := HO3.out
        rw [show [Value.int IntKind.i64 d, Value.int IntKind.i64 L, Value.int IntKind.u8 y.toNat] = [Value.int IntKind.i64 (d, (L : Int), y).1, Value.int IntKind.i64 (d, (L : Int), y).2.1, Value.int IntKind.u8 (d, (L : Int), y).2.2.toNat] from rfl, toksV_snoc] at ho
        exact ⟨at' + L, at', v2, D2, p ++ [(d, (L : Int), y)], by omega, by omega, by simp; omega, by go_num, HF3.out, by simpa using ho, by rw [List.append_assoc]; exact Hp.out, hb3⟩
      case measure => simp [intOf]; omega
    · go_wp2
      go_ret2
      rw [toks_end b at' (by omega), List.append_nil] at hp
      subst hp
      exact ⟨_, rfl, hown, hbel⟩
theorem tokens_long (b : By) (A : Option Addr) (cap : Nat) (w : World) (hm : b.length ≤ 9223372036854775807) (hl : b.length ≤ cap) (hs : 65536 < b.length) :
    Calls Try.prog 11 #[.slice A b.length cap] w fun e w' => e = .returned (.tuple #[.slice none 0 0, .int .i64 2]) ∧ w = w' := by
  go_enter Try.func11, Try.ntmps11
  go_wp2
  go_ret2
  exact ⟨rfl, rfl⟩
theorem rtokens_long (b : By) (A : Option Addr) (cap : Nat) (w : World) (hm : b.length ≤ 9223372036854775807) (hl : b.length ≤ cap) (hs : 65536 < b.length) :
    Calls Try.prog 12 #[.slice A b.length cap] w fun e w' => e = .returned (.tuple #[.slice none 0 0, .int .i64 2]) ∧ w = w' := by
  go_enter Try.func12, Try.ntmps12
  go_wp2
  go_ret2
  exact ⟨rfl, rfl⟩
end Go.Proofs.Ytebmnfffmpiceaa
