import Derived.Test.YtcdlpbccampfdaaD
import Derived.Maps.AppendAt
/-! The walk of the law CrcPieces. -/
namespace Go.Proofs.Ytcdlpbccampfdaa
open Go.RowKit
open M
set_option linter.unusedVariables false
set_option linter.unusedSimpArgs false

/-- What the loop of CrcPieces knows: k pieces have been cut, they lie in l, their sum is s; the rest is still to be cut. -/
def PR (b : List (BitVec 8)) (w1 : World) (N : Nat) (r l s i : Value) (wr : World) : Prop :=
  ∃ (k : Nat) (ps : List (List (BitVec 8))) (cs : List Value) (rest : List (BitVec 8)) (A : Option Addr) (c : Nat),
    k ≤ N ∧ k ≤ 200 ∧ i = .int .i64 k ∧ r = .slice A rest.length c ∧ rest.length ≤ c ∧ RdB w1 A rest ∧ ps.flatten ++ rest = b ∧ s = .int .u32 (add 0#32 ps.flatten).toNat ∧
    wr.ownsRow w1.heap.size 23 1 l k cs ∧ ps.length = k ∧ (∀ j (h : j < ps.length), ∃ v, cs[j]? = some v ∧ EqP w1 ps[j] v) ∧ Below w1.heap.size w1 wr

theorem add_add' (a : Addr) (m n : Nat) : (a.add m).add n = a.add (m + n) := by
  unfold Addr.add
  by_cases hm : m = 0
  · subst hm; simp
  · by_cases hn : n = 0
    · subst hn; simp [hm]
    · simp [hm, hn, Nat.add_assoc]
theorem RdR.drop {α : Type} {R : α → Value → Prop} {w : World} {A : Option Addr} {l : List α} (h : RdR R w A l) (n c : Nat) (hn : n ≤ l.length) (hc : l.length ≤ c) :
    RdR R w (if c = n then A else Option.map (fun x => x.add n) A) (l.drop n) :=
  ⟨by have := h.1; rw [List.length_drop]; omega, fun j hj => by
    rw [List.length_drop] at hj
    obtain ⟨ad, v, e, hcell, hr⟩ := h.2 (n + j) (by omega)
    refine ⟨ad.add n, v, by rw [if_neg (by omega), e]; rfl, by rw [add_add']; exact hcell, by rw [List.getElem_drop]; exact hr⟩⟩
theorem PR_step {b : List (BitVec 8)} {w1 w2 : World} {N k n : Nat} {ps : List (List (BitVec 8))} {cs : List Value} {rest : List (BitVec 8)} {A : Option Addr} {c : Nat} {v' : Value}
    (hn : n ≤ rest.length) (hk : k < N) (hk2 : k < 200) (hrc : rest.length ≤ c) (hrest : RdB w1 A rest) (hps : ps.flatten ++ rest = b) (hlen : ps.length = k)
    (hcs : ∀ j (h : j < ps.length), ∃ v, cs[j]? = some v ∧ EqP w1 ps[j] v) (hcl : cs.length = k)
    (hown : w2.ownsRow w1.heap.size 23 1 v' (k + 1) (cs ++ [.slice A n c])) (hb : Below w1.heap.size w1 w2) (p : List (BitVec 8)) (hp : p = rest.take n) :
    PR b w1 N (.slice (if c = n then A else Option.map (fun x => x.add n) A) (rest.length - n) (c - n)) v' (.int .u32 (add (add 0#32 ps.flatten) p).toNat) (.int .i64 ((k : Int) + 1)) w2 := by
  subst hp
  refine ⟨k + 1, ps ++ [rest.take n], cs ++ [.slice A n c], rest.drop n, _, _, by omega, by omega, by go_num, by rw [List.length_drop], by rw [List.length_drop]; omega, hrest.drop n c hn hrc, ?_, ?_, hown, by simp [hlen], ?_, hb⟩
  · rw [← hps]; simp
  · rw [List.flatten_append, add_append]; simp
  · intro j hj
    by_cases h : j < ps.length
    · obtain ⟨v, hv, he⟩ := hcs j h
      refine ⟨v, by rw [List.getElem?_append_left (by omega)]; exact hv, ?_⟩
      rw [List.getElem_append_left h]; exact he
    · have hj' : j = k := by simp at hj; omega
      subst hj'
      refine ⟨_, by rw [List.getElem?_append_right (by omega), hcl]; simp; rfl, ?_⟩
      rw [List.getElem_append_right (by omega)]
      have e : (rest.take n).length = n := by rw [List.length_take]; omega
      simp only [List.getElem_singleton]
      exact ⟨A, c, by rw [e], by omega, hrest.take n⟩
theorem oneSlice (A : Option Addr) (n c : Nat) : ∀ u ∈ [Value.slice A n c], u.oneCell' = true := by intro u hu; simp at hu; subst hu; rfl
theorem append_ok {k : Nat} (h : k ≤ 200) : k + 1 ≤ maxLen := by unfold maxLen; omega
theorem append_ok2 {k : Nat} (h : k ≤ 200) : (k + 1) * 24 ≤ 140737488355328 := by omega
theorem append_base {B : Nat} {w wr : World} (h : Below B w wr) (hB : B ≤ w.heap.size) (o : Obj) : B ≤ (wr.alloc o).heap.size := by have := h.size; rw [size_alloc]; omega
theorem of_len (ps : List (List (BitVec 8))) (A : Option Addr) (n c : Nat) (w : World) (hn : n = ps.length) (hrd : RdP w A ps) :
    Calls Try.prog 12 #[.slice A n c] w fun e w' => e = .returned (.int .u32 (sums 0#32 ps).toNat) ∧ w = w' := by subst hn; exact of_any ps A c w hrd
theorem RdP.own {w1 w2 : World} {base g n cap : Nat} {e : TypeId} {cells : List Value} {ps : List (List (BitVec 8))} (h : w2.ownsRow base e 1 (.slice (some ⟨g, 0, none⟩) n cap) n cells) (hn : n = ps.length) (hm : n ≤ 9223372036854775807)
    (hcs : ∀ j (h : j < ps.length), ∃ v, cells[j]? = some v ∧ EqP w1 ps[j] v) (hb : Below w1.heap.size w1 w2) : RdP w2 (some ⟨g, 0, none⟩) ps :=
  ⟨by omega, fun j hj => by
    obtain ⟨v, hv, he⟩ := hcs j hj
    refine ⟨_, v, rfl, ?_, EqP.below hb _ _ he⟩
    exact h.cells (g := g) rfl j _ hv⟩
theorem PR_end {w1 : World} {ps : List (List (BitVec 8))} {cs : List Value} {rest : List (BitVec 8)} {A : Option Addr} {c k : Nat} (hrc : rest.length ≤ c) (hrest : RdB w1 A rest) (hlen : ps.length = k) (hcl : cs.length = k)
    (hcs : ∀ j (h : j < ps.length), ∃ v, cs[j]? = some v ∧ EqP w1 ps[j] v) : ∀ j (h : j < (ps ++ [rest]).length), ∃ v, (cs ++ [.slice A rest.length c])[j]? = some v ∧ EqP w1 (ps ++ [rest])[j] v := by
  intro j hj
  by_cases h : j < ps.length
  · obtain ⟨v, hv, he⟩ := hcs j h
    refine ⟨v, by rw [List.getElem?_append_left (by omega)]; exact hv, ?_⟩
    rw [List.getElem_append_left h]; exact he
  · have hj' : j = k := by simp at hj; omega
    subst hj'
    refine ⟨_, by rw [List.getElem?_append_right (by omega), hcl]; simp; rfl, ?_⟩
    rw [List.getElem_append_right (by omega)]
    simp only [List.getElem_singleton]
    exact ⟨A, c, rfl, hrc, hrest⟩
theorem add_len (s : BitVec 32) (l : List (BitVec 8)) (A : Option Addr) (n c : Nat) (w : World) (hn : n = l.length) (hrd : RdB w A l) :
    Calls Try.prog 10 #[.int .u32 s.toNat, .slice A n c] w fun e w' => e = .returned (.int .u32 (add s l).toNat) ∧ w = w' := by subst hn; exact add_any s l A c w hrd
theorem own_base' {w : World} {base : Nat} {e : TypeId} {size n : Nat} {v : Value} {xs : List Value} (h : w.ownsRow base e size v n xs) (k : Nat) (hk : v.ownBlock = some k) : base ≤ k := by
  rcases h.2 with ⟨rfl, _⟩ | ⟨g, cap, cur, rfl, hb, _⟩
  · simp [Value.ownBlock] at hk
  · have : g = k := by simpa [Value.ownBlock] using hk
    omega
theorem info23 : (Try.prog.info? 23).map (fun i => (i.zero, i.size, i.bytes)) = some (some (.slice none 0 0), 1, 24) := by kernel_rfl

set_option maxRecDepth 100000 in
theorem pieces_walk (b : List (BitVec 8)) (B : Option Addr) (cb : Nat) (cuts : List (BitVec 8)) (C : Option Addr) (cc : Nat) (w : World)
    (hb : RdB w B b) (hlb : b.length ≤ cb) (_yb : b.length * 1 ≤ 140737488351232) (hc : RdB w C cuts) (hlc : cuts.length ≤ cc) (_yc : cuts.length * 1 ≤ 140737488351232) :
    Calls Try.prog 4 #[.slice B b.length cb, .slice C cuts.length cc] w fun e w' => e = .returned (.bool true) ∧ Below w.heap.size w w' := by
  obtain ⟨i0, hi, hz0, hz1, hz2⟩ := info_parts info23
  have hmc := hc.1
  clear _yb _yc
  go_enter Try.func4, Try.ntmps4
  go_wp2_with fail
  refine (awake_any _).mono ?_
  rintro e w1 ⟨rfl, hw⟩
  go_wp2_with fail
  refine (cut_any b B cb w1 hlb hb.1).mono ?_
  rintro e w2 ⟨rfl, rfl⟩
  have hb' : RdB w1 B (b.take 8192) := RdR.below (hb.take 8192) hw (fun _ _ h => h)
  have hc' : RdB w1 C cuts := RdR.below hc hw (fun _ _ h => h)
  have hlb' := take_le b cb hlb 8192
  generalize b.take 8192 = b' at *
  clear hb hlb hc
  go_wp2_with fail
  refine (one_any b' _ _ _ hb').mono ?_
  rintro e w2 ⟨rfl, rfl⟩
  go_wp2
  go_loopw [0, 6, 7, 8, 9] (fun r l s i n wr => PR b' w1 cuts.length r l s i wr) (fun _ _ _ i _ _ => cuts.length - (intOf i).toNat)
  case atStart => exact ⟨0, [], [], b', B, cb, Nat.zero_le _, Nat.zero_le _, rfl, rfl, hlb', hb', rfl, by rw [List.flatten_nil, add_nil]; rfl, World.ownsRow_nil _ _ _ _, rfl, fun j h => by simp at h, Below.refl _ _⟩
  case round =>
    obtain ⟨k, ps, cs, rest, A, c, hk, hk2, rfl, rfl, hrc, hrest, hps, rfl, hown, hlen, hcs, hbel⟩ := hrel
    by_cases hlt : k < cuts.length ∧ k < 200
    · obtain ⟨hlt, hlt2⟩ := hlt
      obtain ⟨ad, hCe, hcell⟩ := RdB.at' hc' k hlt
      subst hCe
      have hcell' : wr.cell? (ad.add k) = some (.int .u8 (cuts[k].toNat : Int)) := (hbel.cell (World.block_lt_of_cell? w1 _ hcell)).trans hcell
      clear hcell
      have hx : cuts[k].toNat < 256 := cuts[k].isLt
      generalize cuts[k].toNat = x at *
      have hmr := hrest.1
      rcases Nat.lt_or_ge rest.length x with hmin | hmin
      · go_wp2_with (first
          | (at_builtin; refine wpList_append_own _ rfl (.tmp 34) (.tmp 38) 28 rfl w1.heap.size 23 i0 (.slice none 0 0) 1 24 Try.underlying28 hi hz0 hz1 hz2 rfl (by decide) _ _ _ rfl (hown.alloc _) ⟨wr.heap.size, 0, none⟩ 1 1 [.slice A rest.length c] rfl rfl (cell_one_new _ _ _) (oneSlice _ _ _) (append_ok hk2) (append_ok2 hk2) (append_base hbel (Nat.le_refl _) _) ?_; intro v' w2 hown' hgrow _)
          | fail)
        have hb2 : Below w1.heap.size w1 w2 := (hbel.alloc hbel.size _).grown hgrow (by have := hbel.size; simp; omega) (own_base' hown)
        have hpc : RdB w2 A (rest.take rest.length) := RdR.below (hrest.take _) hb2 (fun _ _ h => h)
        go_wp2_with (go_at_call 10; refine (add_len _ (rest.take rest.length) A _ c _ (by simp) hpc).mono ?_; rintro e w3 ⟨rfl, rfl⟩)
        go_roundw
        case rel =>
          have hcl : cs.length = k := by have := hown.1; simpa using this
          have h := PR_step (n := rest.length) (Nat.le_refl _) hlt hlt2 hrc hrest hps hlen hcs hcl hown' hb2 rest (by simp)
          rw [Nat.sub_self] at h
          exact h
        case measure => simp [intOf]; omega
      · go_wp2_with (first
          | (at_builtin; refine wpList_append_own _ rfl (.tmp 34) (.tmp 38) 28 rfl w1.heap.size 23 i0 (.slice none 0 0) 1 24 Try.underlying28 hi hz0 hz1 hz2 rfl (by decide) _ _ _ rfl (hown.alloc _) ⟨wr.heap.size, 0, none⟩ 1 1 [.slice A x c] rfl rfl (cell_one_new _ _ _) (oneSlice _ _ _) (append_ok hk2) (append_ok2 hk2) (append_base hbel (Nat.le_refl _) _) ?_; intro v' w2 hown' hgrow _)
          | fail)
        have hb2 : Below w1.heap.size w1 w2 := (hbel.alloc hbel.size _).grown hgrow (by have := hbel.size; simp; omega) (own_base' hown)
        have hpc : RdB w2 A (rest.take x) := RdR.below (hrest.take _) hb2 (fun _ _ h => h)
        go_wp2_with (go_at_call 10; refine (add_len _ (rest.take x) A _ c _ (by rw [List.length_take]; omega) hpc).mono ?_; rintro e w3 ⟨rfl, rfl⟩)
        go_roundw
        case rel =>
          have hcl : cs.length = k := by have := hown.1; simpa using this
          have h := PR_step (n := x) hmin hlt hlt2 hrc hrest hps hlen hcs hcl hown' hb2 (rest.take x) rfl
          exact h
        case measure => simp [intOf]; omega
    · have hnot : ¬ ((k : Int) < cuts.length) ∨ (k : Int) < cuts.length ∧ ¬ (k : Int) < 200 := by omega
      have hmr := hrest.1
      have hcl : cs.length = k := by have := hown.1; simpa using this
      have H1 : Hid (sums 0#32 (ps ++ [rest]) = add 0#32 b') := by
        show _ = _
        rw [sums_flatten, List.flatten_append, ← hps]; simp
      have H2 : Hid (add (add 0#32 ps.flatten) rest = add 0#32 b') := by
        show _ = _
        rw [← add_append, hps]
      have hpe := PR_end hrc hrest hlen hcl hcs
      have hpl : k + 1 = (ps ++ [rest]).length := by simp [hlen]
      have Hpl := Lib.hid hpl
      clear hpl hps hlen hcl
      rcases hnot with h1 | ⟨h1, h2⟩
      all_goals
        go_wp2_with (first | (at_builtin; refine wpList_append_own _ rfl (.tmp 48) (.tmp 50) 28 rfl w1.heap.size 23 i0 (.slice none 0 0) 1 24 Try.underlying28 hi hz0 hz1 hz2 rfl (by decide) _ _ _ rfl (hown.alloc _) ⟨wr.heap.size, 0, none⟩ 1 1 [.slice A rest.length c] rfl rfl (cell_one_new _ _ _) (oneSlice _ _ _) (append_ok hk2) (append_ok2 hk2) (append_base hbel (Nat.le_refl _) _) ?_; intro v' w2 hown' hgrow _) | fail)
        have hb2 : Below w1.heap.size w1 w2 := (hbel.alloc hbel.size _).grown hgrow (append_base hbel (Nat.le_refl _) _) (own_base' hown)
        clear hgrow
        obtain ⟨g, cap, hv⟩ := Joins.ownsRow_form hown' (by omega)
        rw [hv] at hown' ⊢
        have hP := RdP.own hown' Hpl.out (by omega) hpe hb2
        have hr2 : RdB w2 A rest := RdR.below hrest hb2 (fun _ _ h => h)
        clear hown' hv
        go_wp2_with fail
        refine (of_len (ps ++ [rest]) _ _ _ _ Hpl.out hP).mono ?_
        rintro e w3 ⟨rfl, rfl⟩
        rw [H1.out]
        go_wp2_with fail
        refine (add_len _ rest A _ c _ rfl hr2).mono ?_
        rintro e w3 ⟨rfl, rfl⟩
        rw [H2.out]
        go_wp2
        go_ret
        exact ⟨rfl, hw.trans (hb2.mono hw.size)⟩
end Go.Proofs.Ytcdlpbccampfdaa
