import Derived.Test.YtglbcejcibohpaaF
import Derived.Laws.AppendOwnNone
/-! without: the closure, the change, the whole. -/
namespace Go.Proofs.Ytglbcejcibohpaa
open Go.RowKit
set_option linter.unusedVariables false
set_option linter.unusedSimpArgs false
/-- append of a row of one's own to a row of one's own. -/
theorem wpList_append_two {P : Program} (w : World) {ops : Array Oper} {rest : List Oper} {o : Oper} {a : Act} {Q : Exit → Act → World → Prop} (hgd : o.guard = none) (s x : Operand) (t : TypeId)
    (ho : o.op = .call { callee := .builtin .append, args := #[s, x], argTypes := #[t, t] })
    (base base2 : Nat) (e : TypeId) (i : TypeInfo) (z : Value) (size bytes : Nat) (ht : P.underlying t = some (.slice e)) (hi : P.info? e = some i) (hz : i.zero = some z)
    (hsize : i.size = size) (hby : i.bytes = bytes) (hzs : z.cells.size = size) (hsz : 0 < size)
    (v : Value) (n : Nat) (xs : List Value) (hs : a.eval s = v) (hown : w.ownsRow base e size v n xs)
    (u : Value) (m : Nat) (news : List Value) (hx : a.eval x = u) (hu : w.ownsRow base2 e size u m news) (h1 : ∀ u ∈ news, u.oneCell' = true)
    (h63 : n + m ≤ maxLen) (hbytes : (n + m) * bytes ≤ 140737488355328) (hbase : base ≤ w.heap.size)
    (h : ∀ v' w', w'.ownsRow base e size v' (n + m) (xs ++ news) → w.grownBy w' v.ownBlock → wpList P ops Q rest (a.put o.dst v') w') : wpList P ops Q (o :: rest) a w := by
  rcases Joins.ownsRow_forms hu with ⟨rfl, h0⟩ | ⟨g, cap, rfl⟩
  · have hn : news = [] := List.eq_nil_of_length_eq_zero (by have := hu.1; rw [h0] at this; omega)
    subst hn
    refine wpList_append_own_none hgd s x t ho base e i size ht hi v n xs hs hown hx (h v w ?_ ⟨rfl, rfl, rfl, Nat.le_refl _, fun _ _ _ => rfl⟩)
    rw [h0, Nat.add_zero, List.append_nil]
    exact hown
  · refine wpList_append_own w hgd s x t ho base e i z size bytes ht hi hz hsize hby hzs hsz v n xs hs hown ⟨g, 0, none⟩ m cap news hx hu.1 (hu.cells (g := g) rfl) h1 h63 hbytes hbase (fun v' w' h2 h3 _ => h v' w' h2 h3)
theorem oneExts (l : List Ext) : ∀ u ∈ extsV l, u.oneCell' = true := by
  intro u hu
  unfold extsV at hu
  rw [List.mem_flatMap] at hu
  obtain ⟨t, _, h⟩ := hu
  exact oneExt t.1 t.2 u h
theorem cutE_len (x e : Ext) : (cutE x e).length ≤ 2 := by
  unfold cutE
  split
  · split <;> split <;> simp
  · simp
theorem own_one {w : World} {B g : Nat} {e : TypeId} (t : Ext) (hB : B ≤ w.heap.size) (hg : g = w.heap.size) : (w.alloc (.cells #[.int .i64 t.1, .int .i64 t.2] e)).ownsRow B e 2 (.slice (some ⟨g, 0, none⟩) 1 1) 1 (extsV [t]) := by
  subst hg
  exact ⟨rfl, .inr ⟨_, 1, _, rfl, hB, heap_alloc_new _ _, Nat.le_refl _, by decide, rfl, rfl⟩⟩
theorem cut_no {a n x y : Int} (h : ¬ holdsE (x, y) (a, n)) : cutE (a, n) (x, y) = [(x, y)] := by unfold cutE; rw [if_neg h]
theorem cut_00 {a n x y : Int} (h : holdsE (x, y) (a, n)) (h1 : ¬ 0 < a - x) (h2 : ¬ 0 < x + y - (a + n)) : cutE (a, n) (x, y) = [] := by unfold cutE; rw [if_pos h, if_neg h1, if_neg h2]; rfl
theorem cut_10 {a n x y : Int} (h : holdsE (x, y) (a, n)) (h1 : 0 < a - x) (h2 : ¬ 0 < x + y - (a + n)) : cutE (a, n) (x, y) = [(x, a - x)] := by unfold cutE; rw [if_pos h, if_pos h1, if_neg h2]; rfl
theorem cut_01 {a n x y : Int} (h : holdsE (x, y) (a, n)) (h1 : ¬ 0 < a - x) (h2 : 0 < x + y - (a + n)) : cutE (a, n) (x, y) = [(a + n, x + y - (a + n))] := by unfold cutE; rw [if_pos h, if_neg h1, if_pos h2]; rfl
theorem cut_11 {a n x y : Int} (h : holdsE (x, y) (a, n)) (h1 : 0 < a - x) (h2 : 0 < x + y - (a + n)) : cutE (a, n) (x, y) = [(x, a - x), (a + n, x + y - (a + n))] := by unfold cutE; rw [if_pos h, if_pos h1, if_pos h2]; rfl
set_option maxRecDepth 100000 in
set_option maxHeartbeats 4000000 in
theorem cut_any (a n x y : Int) (bx : Nat) (w : World) (h1 : liesE 4096 (a, n)) (h2 : liesE 4096 (x, y)) (k0 : w.cell? ⟨bx, 0, none⟩ = some (.int .i64 a)) (k1 : w.cell? ⟨bx, 1, none⟩ = some (.int .i64 n)) :
    Calls Try.prog 41 #[eV x y, .pointer (some ⟨bx, 0, none⟩)] w fun e w' => ∃ v, e = .returned v ∧ w'.ownsRow w.heap.size 25 2 v (cutE (a, n) (x, y)).length (extsV (cutE (a, n) (x, y))) ∧ Below w.heap.size w w' := by
  obtain ⟨i0, hi, hz0, hz1, hz2⟩ := info_parts info25
  unfold liesE at h1 h2
  simp only at h1 h2
  obtain ⟨a1, a2, a3⟩ := h1
  obtain ⟨x1, x2, x3⟩ := h2
  have HO := fun w => holds_any x y a n w ⟨x1, by omega⟩ ⟨by omega, by omega⟩ ⟨a1, by omega⟩ ⟨by omega, by omega⟩
  have z0 : bx < w.heap.size := World.block_lt_of_cell? w _ k0
  have b0 : Below w.heap.size w (w.alloc (eO x y)) := (Below.refl _ _).alloc (Nat.le_refl _) _
  have bW : Below w.heap.size w (((w.alloc (eO x y)).alloc (eO x y)).alloc (eO a n)) := (b0.alloc (by simp) _).alloc (by simp; omega) _
  have H0 := heap_old (eO a n) trivial (heap_old (eO x y) trivial (heap_new w (eO x y) w.heap.size rfl))
  have k0' := cell_old (eO a n) (cell_old (eO x y) (cell_old (eO x y) k0))
  have k1' := cell_old (eO a n) (cell_old (eO x y) (cell_old (eO x y) k1))
  have ka := cell_old (eO x y) k0
  have kb := cell_old (eO x y) k1
  obtain ⟨W, hW⟩ : ∃ W, ((w.alloc (eO x y)).alloc (eO x y)).alloc (eO a n) = W := ⟨_, rfl⟩
  rw [hW] at bW H0 k0' k1'
  have q0 : W.cell? ⟨w.heap.size, 0, none⟩ = some (.int .i64 x) := by rw [Joins.cell_of_block H0]; rfl
  have q1 : W.cell? ⟨w.heap.size, 1, none⟩ = some (.int .i64 y) := by rw [Joins.cell_of_block H0]; rfl
  have c0 := cell_new w #[.int .i64 x, .int .i64 y] 25 (0, 0) 0 _ rfl
  have c1 := cell_new w #[.int .i64 x, .int .i64 y] 25 (0, 0) 1 _ rfl
  have HK0 := Lib.hid k0'
  have HK1 := Lib.hid k1'
  have HQ0 := Lib.hid q0
  have HQ1 := Lib.hid q1
  have HW := Lib.hid hW
  have hsW := bW.size
  clear k0 k1 H0 k0' k1' q0 q1 b0 hW
  have s1 : IntKind.i64.wrap (x + y) = x + y := IntWalk.i64_in _ (by omega)
  have s2 : IntKind.i64.wrap (a + n) = a + n := IntWalk.i64_in _ (by omega)
  have s3 : IntKind.i64.wrap (a - x) = a - x := IntWalk.i64_in _ (by omega)
  have s4 : IntKind.i64.wrap (x + y - (a + n)) = x + y - (a + n) := IntWalk.i64_in _ (by omega)
  by_cases hh : holdsE (x, y) (a, n)
  · replace HO : Hid (∀ w : World, Calls Try.prog 37 #[eV x y, eV a n] w fun e w' => e = .returned (.bool true) ∧ (w.alloc (eO x y)).alloc (eO a n) = w') := fun w => by have := HO w; rw [show holdsB x y a n = true from decide_eq_true hh] at this; exact this
    by_cases g1 : 0 < a - x
    · by_cases g2 : 0 < x + y - (a + n)
      · rw [cut_11 hh g1 g2]
        clear hh
        have e1 : decide (0 < a - x) = true := decide_eq_true g1
        have e2 : decide (0 < x + y - (a + n)) = true := decide_eq_true g2
        go_enter Try.func41, Try.ntmps41
        go_wp2_with (first | (go_at_call 37; refine (HO.out _).mono ?_; rintro e w' ⟨rfl, rfl⟩; rw [HW.out]; have q0 := HQ0.out; have q1 := HQ1.out; have k0 := HK0.out; have k1 := HK1.out) | (at_builtin; (refine wpList_append_own (W.alloc (eO x (a - x))) rfl (.tmp 20) (.tmp 25) 22 rfl w.heap.size 25 i0 (.agg #[.int .i64 0, .int .i64 0]) 2 16 Try.underlying22 hi hz0 hz1 hz2 rfl (by decide) _ 0 _ rfl ((World.ownsRow_nil W w.heap.size 25 2).alloc _) ⟨W.heap.size, 0, none⟩ 1 1 [.int .i64 (x), .int .i64 (a - x)] rfl rfl (two_at _ _ _ _ _ (by simp)) (oneExt _ _) (by unfold maxLen; omega) (by omega) (by simp; omega) ?_; intro v' w3 hown' hgrow _; replace hgrow : World.grownBy _ w3 none := hgrow; have b3 : Below w.heap.size w w3 := (bW.alloc hsW _).grown hgrow (by simp; omega) (by intro k hk; cases hk); have q0 := keepB ((Below.refl W.heap.size W).alloc (Nat.le_refl _) (eO x (a - x)) |>.grown hgrow (by simp) (by intro k hk; cases hk)) HQ0.out; have q1 := keepB ((Below.refl W.heap.size W).alloc (Nat.le_refl _) (eO x (a - x)) |>.grown hgrow (by simp) (by intro k hk; cases hk)) HQ1.out; have k0 := keepB ((Below.refl W.heap.size W).alloc (Nat.le_refl _) (eO x (a - x)) |>.grown hgrow (by simp) (by intro k hk; cases hk)) HK0.out; have k1 := keepB ((Below.refl W.heap.size W).alloc (Nat.le_refl _) (eO x (a - x)) |>.grown hgrow (by simp) (by intro k hk; cases hk)) HK1.out; have HO3 := Lib.hid hown'; have hs3 := b3.size; clear hown' hgrow)) | (at_builtin; go_loud (refine wpList_append_own _ rfl (.tmp 40) (.tmp 48) 22 rfl w.heap.size 25 i0 (.agg #[.int .i64 0, .int .i64 0]) 2 16 Try.underlying22 hi hz0 hz1 hz2 rfl (by decide) _ 1 _ rfl (HO3.out.alloc _) ⟨w3.heap.size, 0, none⟩ 1 1 [.int .i64 (a + n), .int .i64 (x + y - (a + n))] rfl rfl (two_at _ _ _ _ _ (by simp)) (oneExt _ _) (by unfold maxLen; omega) (by omega) (by simp; omega) ?_; intro v'' w4 hown' hgrow _; have b4 : Below w.heap.size w w4 := (b3.alloc hs3 _).grown hgrow (by simp; omega) (own_base' HO3.out); have HO4 := Lib.hid hown'; clear hown' hgrow)) | fail)
        go_ret
        exact ⟨_, rfl, HO4.out, b4⟩
      · rw [cut_10 hh g1 g2]
        clear hh
        have e1 : decide (0 < a - x) = true := decide_eq_true g1
        have e2 : decide (0 < x + y - (a + n)) = false := decide_eq_false g2
        go_enter Try.func41, Try.ntmps41
        go_wp2_with (first | (go_at_call 37; refine (HO.out _).mono ?_; rintro e w' ⟨rfl, rfl⟩; rw [HW.out]; have q0 := HQ0.out; have q1 := HQ1.out; have k0 := HK0.out; have k1 := HK1.out) | (at_builtin; go_loud (refine wpList_append_own (W.alloc (eO x (a - x))) rfl (.tmp 20) (.tmp 25) 22 rfl w.heap.size 25 i0 (.agg #[.int .i64 0, .int .i64 0]) 2 16 Try.underlying22 hi hz0 hz1 hz2 rfl (by decide) _ 0 _ rfl ((World.ownsRow_nil W w.heap.size 25 2).alloc _) ⟨W.heap.size, 0, none⟩ 1 1 [.int .i64 (x), .int .i64 (a - x)] rfl rfl (two_at _ _ _ _ _ (by simp)) (oneExt _ _) (by unfold maxLen; omega) (by omega) (by simp; omega) ?_; intro v' w3 hown' hgrow _; replace hgrow : World.grownBy _ w3 none := hgrow; have b3 : Below w.heap.size w w3 := (bW.alloc hsW _).grown hgrow (by simp; omega) (by intro k hk; cases hk); have q0 := keepB ((Below.refl W.heap.size W).alloc (Nat.le_refl _) (eO x (a - x)) |>.grown hgrow (by simp) (by intro k hk; cases hk)) HQ0.out; have q1 := keepB ((Below.refl W.heap.size W).alloc (Nat.le_refl _) (eO x (a - x)) |>.grown hgrow (by simp) (by intro k hk; cases hk)) HQ1.out; have k0 := keepB ((Below.refl W.heap.size W).alloc (Nat.le_refl _) (eO x (a - x)) |>.grown hgrow (by simp) (by intro k hk; cases hk)) HK0.out; have k1 := keepB ((Below.refl W.heap.size W).alloc (Nat.le_refl _) (eO x (a - x)) |>.grown hgrow (by simp) (by intro k hk; cases hk)) HK1.out; have HO3 := Lib.hid hown'; have hs3 := b3.size; clear hown' hgrow)) | fail)
        go_ret
        exact ⟨_, rfl, HO3.out, b3⟩
    · by_cases g2 : 0 < x + y - (a + n)
      · rw [cut_01 hh g1 g2]
        clear hh
        have e1 : decide (0 < a - x) = false := decide_eq_false g1
        have e2 : decide (0 < x + y - (a + n)) = true := decide_eq_true g2
        go_enter Try.func41, Try.ntmps41
        go_wp2_with (first | (go_at_call 37; refine (HO.out _).mono ?_; rintro e w' ⟨rfl, rfl⟩; rw [HW.out]; have q0 := HQ0.out; have q1 := HQ1.out; have k0 := HK0.out; have k1 := HK1.out) | (at_builtin; go_loud (refine wpList_append_own _ rfl (.tmp 40) (.tmp 48) 22 rfl w.heap.size 25 i0 (.agg #[.int .i64 0, .int .i64 0]) 2 16 Try.underlying22 hi hz0 hz1 hz2 rfl (by decide) _ 0 _ rfl ((World.ownsRow_nil W w.heap.size 25 2).alloc _) ⟨W.heap.size, 0, none⟩ 1 1 [.int .i64 (a + n), .int .i64 (x + y - (a + n))] rfl rfl (two_at _ _ _ _ _ (by simp)) (oneExt _ _) (by unfold maxLen; omega) (by omega) (by simp; omega) ?_; intro v'' w4 hown' hgrow _; have b4 : Below w.heap.size w w4 := (bW.alloc hsW _).grown hgrow (by simp; omega) (own_base' (World.ownsRow_nil W w.heap.size 25 2)); have HO4 := Lib.hid hown'; clear hown' hgrow)) | fail)
        go_ret
        exact ⟨_, rfl, HO4.out, b4⟩
      · rw [cut_00 hh g1 g2]
        clear hh
        have e1 : decide (0 < a - x) = false := decide_eq_false g1
        have e2 : decide (0 < x + y - (a + n)) = false := decide_eq_false g2
        go_enter Try.func41, Try.ntmps41
        go_wp2_with (first | (go_at_call 37; refine (HO.out _).mono ?_; rintro e w' ⟨rfl, rfl⟩; rw [HW.out]; have q0 := HQ0.out; have q1 := HQ1.out; have k0 := HK0.out; have k1 := HK1.out) | fail)
        go_ret
        exact ⟨_, rfl, World.ownsRow_nil _ _ _ _, bW⟩
  · replace HO : Hid (∀ w : World, Calls Try.prog 37 #[eV x y, eV a n] w fun e w' => e = .returned (.bool false) ∧ (w.alloc (eO x y)).alloc (eO a n) = w') := fun w => by have := HO w; rw [show holdsB x y a n = false from decide_eq_false hh] at this; exact this
    rw [cut_no hh]
    clear hh s1 s2 s3 s4
    go_enter Try.func41, Try.ntmps41
    go_wp2_with (first | (go_at_call 37; refine (HO.out _).mono ?_; rintro e w' ⟨rfl, rfl⟩; rw [HW.out]; have q0 := HQ0.out; have q1 := HQ1.out) | fail)
    go_ret
    exact ⟨_, rfl, own_one (x, y) bW.size rfl, bW.alloc bW.size _⟩
set_option maxRecDepth 100000 in
set_option maxHeartbeats 4000000 in
theorem changed_cut (b : Int) (l : List Ext) (A : Option Addr) (cap : Nat) (a n : Int) (bx : Nat) (w : World) (hb : b ≤ 4096) (hf : freeE b l) (h1 : liesE 4096 (a, n)) (hr : RdE w A l) (hl : l.length ≤ cap) (k0 : w.cell? ⟨bx, 0, none⟩ = some (.int .i64 a)) (k1 : w.cell? ⟨bx, 1, none⟩ = some (.int .i64 n)) :
    Calls Try.prog 34 #[.slice A l.length cap, .func (.func 41) #[] #[.pointer (some ⟨bx, 0, none⟩)]] w fun e w' => ∃ v, e = .returned v ∧ w'.ownsRow w.heap.size 25 2 v (withoutE l (a, n)).length (extsV (withoutE l (a, n))) ∧ Below w.heap.size w w' := by
  obtain ⟨i0, hi, hz0, hz1, hz2⟩ := info_parts info25
  have HR := Lib.hid hr
  have hm := hr.1
  have hsm := free_small hf hb
  have HF := Lib.hid hf
  have HL := Lib.hid h1
  have HK0 := Lib.hid k0
  have HK1 := Lib.hid k1
  obtain ⟨T, hT⟩ : ∃ T, withoutE l (a, n) = T := ⟨_, rfl⟩
  rw [hT]
  have HT := Lib.hid hT
  clear hT hr hf h1 k0 k1
  go_enter Try.func34, Try.ntmps34
  go_wp2
  go_loopw [5, 10] (fun lv iv wr => ∃ (k : Nat) (p : List Ext), k ≤ l.length ∧ p.length ≤ 2 * k ∧ iv = .int .i64 k ∧ wr.ownsRow w.heap.size 25 2 lv p.length (extsV p) ∧ p ++ withoutE (l.drop k) (a, n) = T ∧ Below w.heap.size w wr) (fun _ iv _ => l.length - (intOf iv).toNat)
  case atStart => exact ⟨0, [], Nat.zero_le _, Nat.le_refl _, rfl, World.ownsRow_nil _ _ _ _, HT.out, Below.refl _ _⟩
  case round =>
    obtain ⟨k, p, hk, hpk, rfl, hown, hp, hbel⟩ := hrel
    have hsr := hbel.size
    by_cases hlt : k < l.length
    · obtain ⟨ad, hAd, c0, c1, i1, i2⟩ := (HR.out.below hbel).2 k hlt
      subst hAd
      have hlie := (freeF_lies HF.out _ (List.getElem_mem hlt)).1
      rw [List.drop_eq_getElem_cons hlt] at hp
      obtain ⟨⟨x, y⟩, ht⟩ : ∃ t, l[k] = t := ⟨_, rfl⟩
      rw [ht] at c0 c1 hlie hp
      simp only at c0 c1
      have hlie' : liesE 4096 (x, y) := by unfold liesE at hlie ⊢; omega
      have hp' : (p ++ cutE (a, n) (x, y)) ++ withoutE (l.drop (k + 1)) (a, n) = T := by rw [List.append_assoc]; exact hp
      have hcl := cutE_len (a, n) (x, y)
      have CU := Lib.hid (cut_any a n x y bx (wr.alloc (eO x y)) HL.out hlie' (keepA (keepB hbel HK0.out)) (keepA (keepB hbel HK1.out)))
      obtain ⟨r, hr⟩ : ∃ r, cutE (a, n) (x, y) = r := ⟨_, rfl⟩
      rw [hr] at CU hp' hcl
      have Hp := Lib.hid hp'
      have HO := Lib.hid hown
      have ba : Below w.heap.size w (wr.alloc (eO x y)) := hbel.alloc hsr _
      clear ht i1 i2 hown hp hp' hr hlie hlie'
      go_wp2_with (first | (go_at_call 41; refine CU.out.mono ?_; rintro e w2 ⟨u, rfl, hu, bb⟩; have HU := Lib.hid hu; have HO2 := Lib.hid (own_below' (HO.out.alloc (eO x y)) bb); have b2 : Below w.heap.size w w2 := ba.trans (bb.mono (by simp; omega)); have hs2 := b2.size; clear hu bb) | (at_builtin; go_loud (refine wpList_append_two _ rfl (.tmp 14) (.tmp 17) 22 rfl w.heap.size _ 25 i0 (.agg #[.int .i64 0, .int .i64 0]) 2 16 Try.underlying22 hi hz0 hz1 hz2 rfl (by decide) _ p.length _ rfl HO2.out u r.length (extsV r) rfl HU.out (oneExts r) (by unfold maxLen; omega) (by omega) (by omega) ?_; intro v' w3 hown' hgrow; have hb3 : Below w.heap.size w w3 := b2.grown hgrow (by omega) (own_base' HO2.out); have HO3 := Lib.hid hown'; clear hown' hgrow)) | fail)
      go_roundw
      case rel =>
        have ho := HO3.out
        rw [extsV_app] at ho
        exact ⟨k + 1, p ++ r, by omega, by simp; omega, by go_num, by simpa using ho, Hp.out, hb3⟩
      case measure => simp [intOf]; omega
    · rw [List.drop_eq_nil_of_le (by omega)] at hp
      have e0 : withoutE [] (a, n) = [] := rfl
      rw [e0, List.append_nil] at hp
      subst hp
      go_wp2
      go_ret
      exact ⟨_, rfl, hown, hbel⟩
set_option maxRecDepth 100000 in
set_option maxHeartbeats 4000000 in
theorem without_any (b : Int) (l : List Ext) (A : Option Addr) (cap : Nat) (a n : Int) (w : World) (hb : b ≤ 4096) (hf : freeE b l) (h1 : liesE 4096 (a, n)) (hr : RdE w A l) (hl : l.length ≤ cap) :
    Calls Try.prog 31 #[.slice A l.length cap, eV a n] w fun e w' => ∃ v, e = .returned v ∧ w'.ownsRow w.heap.size 25 2 v (withoutE l (a, n)).length (extsV (withoutE l (a, n))) ∧ Below w.heap.size w w' := by
  have b0 : Below w.heap.size w (w.alloc (eO a n)) := (Below.refl _ _).alloc (Nat.le_refl _) _
  have CH := changed_cut b l A cap a n w.heap.size (w.alloc (eO a n)) hb hf h1 (hr.below b0) hl (cell_new w #[.int .i64 a, .int .i64 n] 25 (0, 0) 0 _ rfl) (cell_new w #[.int .i64 a, .int .i64 n] 25 (0, 0) 1 _ rfl)
  have HC := Lib.hid CH
  clear CH hr hf h1
  go_enter Try.func31, Try.ntmps31
  go_wp2_with (first | (go_at_call 34; refine HC.out.mono ?_; rintro e w2 ⟨u, rfl, hu, bb⟩) | fail)
  go_ret
  refine ⟨_, rfl, ⟨hu.1, ?_⟩, b0.trans (bb.mono (by simp))⟩
  rcases hu.2 with hn | ⟨g, c, cur, e, hb1, rest⟩
  · exact .inl hn
  · exact .inr ⟨g, c, cur, e, by simp at hb1; omega, rest⟩
end Go.Proofs.Ytglbcejcibohpaa
