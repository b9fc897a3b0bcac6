import Derived.Test.YtglbcejcibohpaaH
/-! Give. -/
namespace Go.Proofs.Ytglbcejcibohpaa
open Go.RowKit
set_option linter.unusedVariables false
set_option linter.unusedSimpArgs false
/-- Only two blocks are changed, of those that were. -/
structure Bes (p q : Nat) (w w' : World) : Prop where
  os : w'.os = w.os
  tape : w'.tape = w.tape
  output : w'.output = w.output
  size : w.heap.size ≤ w'.heap.size
  block : ∀ k, k < w.heap.size → k ≠ p → k ≠ q → w'.heap[k]? = w.heap[k]?
theorem Bes.refl (p q : Nat) (w : World) : Bes p q w w := ⟨rfl, rfl, rfl, Nat.le_refl _, fun _ _ _ _ => rfl⟩
theorem Bes.trans {p q : Nat} {a b c : World} (h : Bes p q a b) (k : Bes p q b c) : Bes p q a c :=
  ⟨k.os.trans h.os, k.tape.trans h.tape, k.output.trans h.output, Nat.le_trans h.size k.size, fun i hi hp hq => (k.block i (Nat.lt_of_lt_of_le hi h.size) hp hq).trans (h.block i hi hp hq)⟩
theorem Bes.of {p q : Nat} {a b : World} (h : Below a.heap.size a b) : Bes p q a b := ⟨h.os, h.tape, h.output, h.size, fun k hk _ _ => h.block k hk⟩
theorem Bes.alloc {p q : Nat} {a b : World} (h : Bes p q a b) (o : Obj) : Bes p q a (b.alloc o) := h.trans (Bes.of ((Below.refl _ _).alloc (Nat.le_refl _) o))
theorem Bes.setP {p q : Nat} {a b : World} (h : Bes p q a b) (i : Nat) (u : Value) : Bes p q a (b.setCell ⟨p, i, none⟩ u) :=
  h.trans ⟨rfl, rfl, rfl, by simp, fun k _ hk _ => Below.heap_setCell _ _ _ _ hk⟩
theorem Bes.setQ {p q : Nat} {a b : World} (h : Bes p q a b) (i : Nat) (u : Value) : Bes p q a (b.setCell ⟨q, i, none⟩ u) :=
  h.trans ⟨rfl, rfl, rfl, by simp, fun k _ _ hk => Below.heap_setCell _ _ _ _ hk⟩
theorem Bes.below {p q B : Nat} {a b c : World} (h : Below B a b) (k : Bes p q b c) (hp : B ≤ p) (hq : B ≤ q) (hs : B ≤ b.heap.size) : Below B a c :=
  h.trans ⟨k.os, k.tape, k.output, k.size, fun i hi => k.block i (by omega) (by omega) (by omega)⟩
theorem Bes.grown {p q B e size n : Nat} {a b c : World} {v : Value} {xs : List Value} (h : Bes p q a b) (hown : b.ownsRow B e size v n xs) (hB : a.heap.size ≤ B) (hg : b.grownBy c v.ownBlock) : Bes p q a c :=
  ⟨hg.os.trans h.os, hg.tape.trans h.tape, hg.output.trans h.output, Nat.le_trans h.size hg.size, fun i hi hp hq => (hg.block i (Nat.lt_of_lt_of_le hi h.size) (fun e => by have := own_base' hown _ e.symm; omega)).trans (h.block i hi hp hq)⟩
theorem own_bes {w w' : World} {B e size n p q : Nat} {v : Value} {xs : List Value} (h : w.ownsRow B e size v n xs) (hb : Bes p q w w') (hp : p < B) (hq : q < B) : w'.ownsRow B e size v n xs := by
  refine ⟨h.1, ?_⟩
  rcases h.2 with hn | ⟨g, cap, cur, rfl, hb1, hgg, rest⟩
  · exact .inl hn
  · refine .inr ⟨g, cap, cur, rfl, hb1, ?_, rest⟩
    rw [hb.block g (Array.getElem?_eq_some_iff.1 hgg).1 (by omega) (by omega)]
    exact hgg
theorem own_two {w : World} {B g : Nat} {e : TypeId} (s t : Ext) (hB : B ≤ w.heap.size) (hg : g = w.heap.size) : (w.alloc (.cells #[.int .i64 s.1, .int .i64 s.2, .int .i64 t.1, .int .i64 t.2] e)).ownsRow B e 2 (.slice (some ⟨g, 0, none⟩) 2 2) 2 (extsV [s, t]) := by
  subst hg
  exact ⟨rfl, .inr ⟨_, 2, _, rfl, hB, heap_alloc_new _ _, Nat.le_refl _, by decide, rfl, rfl⟩⟩
/-- One extent's step. -/
def giveS (a n : Int) (d : Bool) (x y : Int) : List Ext × Ext × Bool :=
  if x + y = a then ([], (x, y + n), d)
  else if x = a + n then ([], (a, n + y), d)
  else if a < x ∧ d = false then ([(a, n), (x, y)], (a, n), true)
  else ([(x, y)], (a, n), d)
theorem giveF_step (a n : Int) (d : Bool) (x y : Int) (l : List Ext) : giveF (a, n) d ((x, y) :: l) = (giveS a n d x y).1 ++ giveF (giveS a n d x y).2.1 (giveS a n d x y).2.2 l := by
  rw [giveF]
  unfold giveS
  simp only
  split
  · rfl
  · split
    · rfl
    · split <;> rfl
theorem giveS_lies {b a n x y : Int} {d : Bool} (h1 : liesE b (a, n)) (h2 : liesE b (x, y)) : liesE b (giveS a n d x y).2.1 := by
  unfold giveS
  unfold liesE at *
  simp only at h1 h2
  split
  · simp only; omega
  · split
    · simp only; omega
    · split <;> exact h1
theorem giveS_len (a n : Int) (d : Bool) (x y : Int) : (giveS a n d x y).1.length ≤ 2 := by
  unfold giveS
  split
  · simp
  · split
    · simp
    · split <;> simp
theorem heap_set_other {w : World} {g k i : Nat} {u : Value} {o : Obj} (h : w.heap[k]? = some o) (hk : k ≠ g) : (w.setCell ⟨g, i, none⟩ u).heap[k]? = some o := (Below.heap_setCell _ _ _ _ hk).trans h
theorem two_set1 {w : World} {g : Nat} {a0 a1 v : Value} {t : TypeId} (h : w.heap[g]? = some (.cells #[a0, a1] t (0, 0))) : (w.setCell ⟨g, 1, none⟩ v).heap[g]? = some (.cells #[a0, v] t (0, 0)) := by
  simp [World.setCell, Array.getElem?_modify, h]
set_option maxRecDepth 100000 in
set_option maxHeartbeats 4000000 in
theorem step_any (b a n x y : Int) (d : Bool) (be bd : Nat) (w : World) (hb : b ≤ 4096) (h1 : liesE b (a, n)) (h2 : liesE b (x, y)) (hne : be ≠ bd) (he : w.heap[be]? = some (eO a n)) (hd : w.heap[bd]? = some (.cells #[.bool d] 4)) :
    Calls Try.prog 35 #[eV x y, .pointer (some ⟨be, 0, none⟩), .pointer (some ⟨bd, 0, none⟩)] w fun e w' => ∃ v, e = .returned v ∧ w'.ownsRow w.heap.size 25 2 v (giveS a n d x y).1.length (extsV (giveS a n d x y).1) ∧ w'.heap[be]? = some (eO (giveS a n d x y).2.1.1 (giveS a n d x y).2.1.2) ∧ w'.heap[bd]? = some (.cells #[.bool (giveS a n d x y).2.2] 4) ∧ Bes be bd w w' := by
  unfold liesE at h1 h2
  simp only at h1 h2
  obtain ⟨a1, a2, a3⟩ := h1
  obtain ⟨x1, x2, x3⟩ := h2
  have e1 := heap_old (eO x y) trivial he
  have d1 := heap_old (eO x y) trivial hd
  have lt1 : be < w.heap.size := (Array.getElem?_eq_some_iff.1 he).1
  have lt2 : bd < w.heap.size := (Array.getElem?_eq_some_iff.1 hd).1
  have bw : Bes be bd w (w.alloc (eO x y)) := (Bes.refl _ _ _).alloc _
  have k0 : (w.alloc (eO x y)).cell? ⟨be, 0, none⟩ = some (.int .i64 a) := by rw [Joins.cell_of_block e1]; rfl
  have k1 : (w.alloc (eO x y)).cell? ⟨be, 1, none⟩ = some (.int .i64 n) := by rw [Joins.cell_of_block e1]; rfl
  have kd : (w.alloc (eO x y)).cell? ⟨bd, 0, none⟩ = some (.bool d) := cell_of_one d1
  have f0 := fr_of he 0
  have f0' := fr_of e1 0
  have f1' := fr_of e1 1
  have fd' := fr_of d1 0
  have f1 := fr_of he 1
  have fd := fr_of hd 0
  have g1 := heap_new w (eO x y) w.heap.size rfl
  have q0 : (w.alloc (eO x y)).cell? ⟨w.heap.size, 0, none⟩ = some (.int .i64 x) := by rw [Joins.cell_of_block g1]; rfl
  have q1 : (w.alloc (eO x y)).cell? ⟨w.heap.size, 1, none⟩ = some (.int .i64 y) := by rw [Joins.cell_of_block g1]; rfl
  have s1 : IntKind.i64.wrap (x + y) = x + y := IntWalk.i64_in _ (by omega)
  have s2 : IntKind.i64.wrap (a + n) = a + n := IntWalk.i64_in _ (by omega)
  have s3 : IntKind.i64.wrap (y + n) = y + n := IntWalk.i64_in _ (by omega)
  have s4 : IntKind.i64.wrap (n + y) = n + y := IntWalk.i64_in _ (by omega)
  have m0 : w.cell? ⟨be, 0, none⟩ = some (.int .i64 a) := by rw [Joins.cell_of_block he]; rfl
  have m1 : w.cell? ⟨be, 1, none⟩ = some (.int .i64 n) := by rw [Joins.cell_of_block he]; rfl
  have md : w.cell? ⟨bd, 0, none⟩ = some (.bool d) := cell_of_one hd
  have HE := Lib.hid he
  have HD := Lib.hid hd
  have E1 := Lib.hid e1
  have D1 := Lib.hid d1
  have G1 := Lib.hid g1
  have BW := Lib.hid bw
  clear e1 d1 he hd g1 bw
  by_cases c1 : x + y = a
  · have eS : giveS a n d x y = ([], (x, y + n), d) := by unfold giveS; rw [if_pos c1]
    rw [eS]
    simp only
    have p1 : (x + y == a) = true := by simpa using c1
    clear eS c1
    go_enter Try.func35, Try.ntmps35
    go_wp2
    go_ret
    exact ⟨_, rfl, World.ownsRow_nil _ _ _ _, heap_old _ trivial (two_set HE.out), heap_old _ trivial (heap_set_other (heap_set_other HD.out (Ne.symm hne)) (Ne.symm hne)), (((Bes.refl _ _ _).setP _ _).setP _ _).alloc _⟩
  · have p1 : (x + y == a) = false := by simpa using c1
    by_cases c2 : x = a + n
    · have eS : giveS a n d x y = ([], (a, n + y), d) := by unfold giveS; rw [if_neg c1, if_pos c2]
      rw [eS]
      simp only
      have p2 : (x == a + n) = true := by simpa using c2
      clear eS c1 c2
      go_enter Try.func35, Try.ntmps35
      go_wp2
      go_ret
      exact ⟨_, rfl, World.ownsRow_nil _ _ _ _, heap_old _ trivial (two_set1 HE.out), heap_old _ trivial (heap_set_other HD.out (Ne.symm hne)), ((Bes.refl _ _ _).setP _ _).alloc _⟩
    · have p2 : (x == a + n) = false := by simpa using c2
      by_cases c3 : a < x
      · have p3 : decide (a < x) = true := decide_eq_true c3
        cases d with
        | false =>
          have eS : giveS a n false x y = ([(a, n), (x, y)], (a, n), true) := by unfold giveS; rw [if_neg c1, if_neg c2, if_pos ⟨c3, rfl⟩]
          rw [eS]
          simp only
          have E2 := Lib.hid (heap_set_other (i := 0) (u := .bool true) HE.out hne)
          have D2 := Lib.hid (one_setCell (u := .bool true) HD.out)
          have k0' : (w.setCell ⟨bd, 0, none⟩ (.bool true)).cell? ⟨be, 0, none⟩ = some (.int .i64 a) := by rw [Joins.cell_of_block E2.out]; rfl
          have k1' : (w.setCell ⟨bd, 0, none⟩ (.bool true)).cell? ⟨be, 1, none⟩ = some (.int .i64 n) := by rw [Joins.cell_of_block E2.out]; rfl
          have k0'' := cell_old (eO x y) k0'
          have k1'' := cell_old (eO x y) k1'
          clear eS c1 c2 c3
          go_enter Try.func35, Try.ntmps35
          go_wp2
          go_ret
          exact ⟨_, rfl, own_two (a, n) (x, y) (by simp) (by simp), heap_old _ trivial (heap_old _ trivial E2.out), heap_old _ trivial (heap_old _ trivial D2.out), (((Bes.refl _ _ _).setQ _ _).alloc _).alloc _⟩
        | true =>
          have eS : giveS a n true x y = ([(x, y)], (a, n), true) := by unfold giveS; rw [if_neg c1, if_neg c2, if_neg (by simp)]
          rw [eS]
          simp only
          clear eS c1 c2 c3
          go_enter Try.func35, Try.ntmps35
          go_wp2
          go_ret
          exact ⟨_, rfl, own_one (x, y) (by simp) (by simp), heap_old _ trivial E1.out, heap_old _ trivial D1.out, BW.out.alloc _⟩
      · have p3 : decide (a < x) = false := decide_eq_false c3
        have eS : giveS a n d x y = ([(x, y)], (a, n), d) := by unfold giveS; rw [if_neg c1, if_neg c2, if_neg (fun h => c3 h.1)]
        rw [eS]
        simp only
        clear eS c1 c2 c3
        go_enter Try.func35, Try.ntmps35
        go_wp2
        go_ret
        exact ⟨_, rfl, own_one (x, y) (by simp) (by simp), heap_old _ trivial E1.out, heap_old _ trivial D1.out, BW.out.alloc _⟩
set_option maxRecDepth 100000 in
set_option maxHeartbeats 4000000 in
theorem changed_step (b : Int) (l : List Ext) (A : Option Addr) (cap : Nat) (a0 n0 : Int) (be bd : Nat) (w : World) (hb : b ≤ 4096) (hf : freeE b l) (h1 : liesE b (a0, n0)) (hr : ∀ w', Bes be bd w w' → RdE w' A l) (hl : l.length ≤ cap) (hne : be ≠ bd) (he : w.heap[be]? = some (eO a0 n0)) (hd : w.heap[bd]? = some (.cells #[.bool false] 4)) :
    Calls Try.prog 34 #[.slice A l.length cap, .func (.func 35) #[] #[.pointer (some ⟨be, 0, none⟩), .pointer (some ⟨bd, 0, none⟩)]] w fun e w' => ∃ (v : Value) (a n : Int) (d : Bool) (p : List Ext), e = .returned v ∧ p.length ≤ 2 * l.length ∧ p ++ (if d then [] else [(a, n)]) = giveF (a0, n0) false l ∧ liesE b (a, n) ∧ w'.ownsRow w.heap.size 25 2 v p.length (extsV p) ∧ w'.heap[be]? = some (eO a n) ∧ w'.heap[bd]? = some (.cells #[.bool d] 4) ∧ Bes be bd w w' := by
  obtain ⟨i0, hi, hz0, hz1, hz2⟩ := info_parts info25
  have HR := Lib.hid hr
  have hm := (hr w (Bes.refl _ _ _)).1
  have hsm := free_small hf hb
  have HF := Lib.hid hf
  have lt1 : be < w.heap.size := (Array.getElem?_eq_some_iff.1 he).1
  have lt2 : bd < w.heap.size := (Array.getElem?_eq_some_iff.1 hd).1
  have HE := Lib.hid he
  have HD := Lib.hid hd
  have HL := Lib.hid h1
  obtain ⟨T, hT⟩ : ∃ T, giveF (a0, n0) false l = T := ⟨_, rfl⟩
  rw [hT]
  have HT := Lib.hid hT
  clear hT hr hf h1 he hd
  go_enter Try.func34, Try.ntmps34
  go_wp2
  go_loopw [5, 10] (fun lv iv wr => ∃ (k : Nat) (a n : Int) (d : Bool) (p : List Ext), k ≤ l.length ∧ p.length ≤ 2 * k ∧ iv = .int .i64 k ∧ liesE b (a, n) ∧ wr.ownsRow w.heap.size 25 2 lv p.length (extsV p) ∧ wr.heap[be]? = some (eO a n) ∧ wr.heap[bd]? = some (.cells #[.bool d] 4) ∧ p ++ giveF (a, n) d (l.drop k) = T ∧ Bes be bd w wr) (fun _ iv _ => l.length - (intOf iv).toNat)
  case atStart => exact ⟨0, a0, n0, false, [], Nat.zero_le _, Nat.le_refl _, rfl, HL.out, World.ownsRow_nil _ _ _ _, HE.out, HD.out, HT.out, Bes.refl _ _ _⟩
  case round =>
    obtain ⟨k, a, n, d, p, hk, hpk, rfl, hlie, hown, he, hd, hp, hbel⟩ := hrel
    have hsr := hbel.size
    by_cases hlt : k < l.length
    · obtain ⟨ad, hAd, c0, c1, i1, i2⟩ := (HR.out wr hbel).2 k hlt
      subst hAd
      have hlx := (freeF_lies HF.out _ (List.getElem_mem hlt)).1
      rw [List.drop_eq_getElem_cons hlt] at hp
      obtain ⟨⟨x, y⟩, ht⟩ : ∃ t, l[k] = t := ⟨_, rfl⟩
      rw [ht] at c0 c1 hlx hp
      simp only at c0 c1
      rw [giveF_step, ← List.append_assoc] at hp
      have hgl := giveS_len a n d x y
      have hgs := giveS_lies (d := d) hlie hlx
      have CU := Lib.hid (step_any b a n x y d be bd (wr.alloc (eO x y)) hb hlie hlx hne (heap_old _ trivial he) (heap_old _ trivial hd))
      obtain ⟨⟨r, ⟨a', n'⟩, d'⟩, hgr⟩ : ∃ r, giveS a n d x y = r := ⟨_, rfl⟩
      rw [hgr] at CU hp hgl hgs
      simp only at CU hp hgl hgs
      have Hp := Lib.hid hp
      have HO := Lib.hid hown
      have Hgs := Lib.hid hgs
      have ba : Bes be bd w (wr.alloc (eO x y)) := hbel.alloc _
      clear ht i1 i2 hown hp hgr hlie hlx he hd hgs
      go_wp2_with (first | (go_at_call 35; refine CU.out.mono ?_; rintro e w2 ⟨u, rfl, hu, he2, hd2, bb⟩; have HU := Lib.hid hu; have HO2 := Lib.hid (own_bes (HO.out.alloc (eO x y)) bb lt1 lt2); have b2 : Bes be bd w w2 := ba.trans bb; have hs2 := b2.size; have HE2 := Lib.hid he2; have HD2 := Lib.hid hd2; clear hu bb he2 hd2) | (at_builtin; go_loud (refine wpList_append_two _ rfl (.tmp 14) (.tmp 17) 22 rfl w.heap.size _ 25 i0 (.agg #[.int .i64 0, .int .i64 0]) 2 16 Try.underlying22 hi hz0 hz1 hz2 rfl (by decide) _ p.length _ rfl HO2.out u r.length (extsV r) rfl HU.out (oneExts r) (by unfold maxLen; omega) (by omega) (by omega) ?_; intro v' w3 hown' hgrow; have hb3 : Bes be bd w w3 := b2.grown HO2.out (Nat.le_refl _) hgrow; have HE3 := Lib.hid (grown_heap hgrow HE2.out (fun e => by have := own_base' HO2.out _ e; omega)); have HD3 := Lib.hid (grown_heap hgrow HD2.out (fun e => by have := own_base' HO2.out _ e; omega)); have HO3 := Lib.hid hown'; clear hown' hgrow)) | fail)
      go_roundw
      case rel =>
        have ho := HO3.out
        rw [extsV_app] at ho
        exact ⟨k + 1, a', n', d', p ++ r, by omega, by simp; omega, by go_num, Hgs.out, by simpa using ho, HE3.out, HD3.out, Hp.out, hb3⟩
      case measure => simp [intOf]; omega
    · rw [List.drop_eq_nil_of_le (by omega), giveF] at hp
      have Hp := Lib.hid hp
      clear hp
      go_wp2
      go_ret
      exact ⟨_, a, n, d, p, rfl, by omega, Hp.out, hlie, hown, he, hd, hbel⟩
end Go.Proofs.Ytglbcejcibohpaa
