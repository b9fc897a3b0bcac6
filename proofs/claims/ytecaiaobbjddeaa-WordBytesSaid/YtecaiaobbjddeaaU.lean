import Derived.Test.YtecaiaobbjddeaaT
/-! Words, in all cases: word's and the document's. -/
namespace Go.Proofs.Ytecaiaobbjddeaa
open Go.RowKit
set_option linter.unusedVariables false
set_option linter.unusedSimpArgs false
theorem info22 : (Try.prog.info? 22).map (fun i => (i.zero, i.size, i.bytes)) = some (some (.int .u64 0), 1, 8) := by kernel_rfl
/-- The numbers of the first k pieces of n bytes. -/
def rowOf (l : List (BitVec 8)) (n : Nat) (o : Int) (k : Nat) : List Nat := (List.range k).map fun i => numOf (l.drop (i * n)) n o
theorem rowOf_succ (l : List (BitVec 8)) (n : Nat) (o : Int) (k : Nat) : rowOf l n o (k + 1) = rowOf l n o k ++ [numOf (l.drop (k * n)) n o] := by simp [rowOf, List.range_succ]
theorem rowOf_len (l : List (BitVec 8)) (n : Nat) (o : Int) (k : Nat) : (rowOf l n o k).length = k := by simp [rowOf]
def numsV (l : List Nat) : List Value := l.map fun (x : Nat) => Value.int .u64 (x : Int)
theorem numsV_snoc (l : List Nat) (x : Nat) : numsV l ++ [.int .u64 (x : Int)] = numsV (l ++ [x]) := by simp [numsV]
theorem numOf_lt64 (l : List (BitVec 8)) (n : Nat) (o : Int) (hn : n ≤ 8) : numOf l n o < 18446744073709551616 := by
  have h1 := numOf_lt l n o
  have h2 : 2 ^ (8 * n) ≤ 2 ^ 64 := Nat.pow_le_pow_right (by omega) (by omega)
  have h3 : (2 : Nat) ^ 64 = 18446744073709551616 := by decide
  omega
theorem own_below {w w' : World} {B e size n : Nat} {v : Value} {xs : List Value} (h : w.ownsRow B e size v n xs) (hb : Below w.heap.size w w') : w'.ownsRow B e size v n xs := by
  refine ⟨h.1, ?_⟩
  rcases h.2 with hn | ⟨g, cap, cur, rfl, hb1, hgg, rest⟩
  · exact .inl hn
  · refine .inr ⟨g, cap, cur, rfl, hb1, ?_, rest⟩
    rw [hb.block g (Array.getElem?_eq_some_iff.1 hgg).1]
    exact hgg
theorem oneU (x : Int) : ∀ u ∈ [Value.int .u64 x], u.oneCell' = true := by intro u hu; simp at hu; subst hu; rfl
/-- How Words ends. -/
def wordsE (l : List (BitVec 8)) (bits o : Int) : Int := if code bits o = 0 then (if l.length % (bits / 8).toNat ≠ 0 then 11 else 0) else code bits o
def wordsV (l : List (BitVec 8)) (bits o : Int) : List Nat := if wordsE l bits o = 0 then rowOf l (bits / 8).toNat o (l.length / (bits / 8).toNat) else []
/-- A row of numbers that may be read. -/
def RdU (w : World) (v : Value) (l : List Nat) : Prop := ∃ A c, v = .slice A l.length c ∧ l.length ≤ c ∧ RdR (fun x v => v = Value.int .u64 ((x : Nat) : Int)) w A l
theorem RdU.nil (w : World) : RdU w (.slice none 0 0) [] := ⟨none, 0, rfl, by simp, by simp, fun j hj => by simp at hj⟩
theorem RdU.own {w : World} {base n : Nat} {e : TypeId} {v : Value} {l : List Nat} (h : w.ownsRow base e 1 v n (numsV l)) : RdU w v l := by
  have hl : l.length = n := by have := h.1; simpa [numsV] using this
  rcases Joins.ownsRow_forms h with ⟨rfl, h0⟩ | ⟨g, cap, rfl⟩
  · obtain rfl : l = [] := List.eq_nil_of_length_eq_zero (by omega)
    exact RdU.nil w
  · have hm : n ≤ maxLen := by
      rcases h.2 with ⟨_, h1⟩ | ⟨g', cap', cur, he, _, _, h1, h2, _⟩
      · omega
      · simp only [Value.slice.injEq] at he; omega
    refine ⟨_, cap, by rw [hl], by rw [hl]; exact own_cap h, by rw [hl]; exact hm, fun j hj => ⟨_, _, rfl, h.cells (g := g) rfl j _ ?_, rfl⟩⟩
    simp [numsV, List.getElem?_eq_getElem hj]
theorem RdU.below {w w' : World} {v : Value} {l : List Nat} (h : RdU w v l) (hb : Below w.heap.size w w') : RdU w' v l := by
  obtain ⟨A, c, rfl, hc, hr⟩ := h
  exact ⟨A, c, rfl, hc, RdR.below hr hb (fun _ _ h => h)⟩

theorem words_bad (A : Option Addr) (len cap : Nat) (bits o : Int) (w : World) (h : code bits o ≠ 0) : Calls Try.prog 25 #[.slice A len cap, .int .i64 bits, .int .i64 o] w fun e w' => e = .returned (.tuple #[.slice none 0 0, .int .i64 (code bits o)]) ∧ w = w' := by
  obtain ⟨c, hc⟩ : ∃ c, code bits o = c := ⟨_, rfl⟩
  rw [hc] at h ⊢
  have h1 : (c != 0) = true := by simp [h]
  have HC := Lib.hid hc
  clear hc
  go_enter Try.func25, Try.ntmps25
  go_wp2_with (go_at_call 33; refine (way_any bits o _).mono ?_; rintro e w1 ⟨rfl, rfl⟩; rw [HC.out])
  go_ret2
  exact ⟨rfl, rfl⟩
theorem rwords_bad (A : Option Addr) (len cap : Nat) (bits o : Int) (w : World) (h : code bits o ≠ 0) : Calls Try.prog 26 #[.slice A len cap, .int .i64 bits, .int .i64 o] w fun e w' => e = .returned (.tuple #[.slice none 0 0, .int .i64 (code bits o)]) ∧ Below w.heap.size w w' := by
  obtain ⟨c, hc⟩ : ∃ c, code bits o = c := ⟨_, rfl⟩
  rw [hc] at h ⊢
  have h1 : (c != 0) = true := by simp [h]
  have HC := Lib.hid hc
  clear hc
  go_enter Try.func26, Try.ntmps26
  go_wp2_with (go_at_call 35; refine (asked_any bits o _).mono ?_; rintro e w1 ⟨rfl, b1⟩; rw [HC.out])
  go_ret2
  exact ⟨rfl, b1⟩
theorem words_short (A : Option Addr) (len cap n : Nat) (bits o : Int) (w : World) (hm : len ≤ 9223372036854775807) (hn : bits = 8 ∧ n = 1 ∨ bits = 16 ∧ n = 2 ∨ bits = 32 ∧ n = 4 ∨ bits = 64 ∧ n = 8) (ho : o = 1 ∨ o = 2) (hl : len % n ≠ 0) :
    Calls Try.prog 25 #[.slice A len cap, .int .i64 bits, .int .i64 o] w fun e w' => e = .returned (.tuple #[.slice none 0 0, .int .i64 11]) ∧ w = w' := by
  have hbits : bits = 8 ∨ bits = 16 ∨ bits = 32 ∨ bits = 64 := by omega
  have hq : bits.tdiv 8 = (n : Int) := by rcases hn with ⟨rfl, rfl⟩ | ⟨rfl, rfl⟩ | ⟨rfl, rfl⟩ | ⟨rfl, rfl⟩ <;> decide
  have hn8 : n ≤ 8 := by omega
  have hn1 : 1 ≤ n := by omega
  have hr : (len : Int).tmod (n : Int) = ((len % n : Nat) : Int) := by rw [Int.tmod_eq_emod_of_nonneg (by omega)]; omega
  generalize len % n = r at *
  have Hbits := Lib.hid hbits
  have Ho := Lib.hid ho
  have b0 : -9223372036854775808 ≤ bits := by omega
  have b1 : bits ≤ 64 := by omega
  have h1 : ((r : Int) != 0) = true := by simp; omega
  clear hn ho hbits
  go_enter Try.func25, Try.ntmps25
  go_wp2_with (go_at_call 33; refine (way_ok bits o _ Hbits.out Ho.out).mono ?_; rintro e w' ⟨rfl, rfl⟩)
  go_ret2
  exact ⟨rfl, rfl⟩
theorem rwords_short (A : Option Addr) (len cap n : Nat) (bits o : Int) (w : World) (hm : len ≤ 9223372036854775807) (hn : bits = 8 ∧ n = 1 ∨ bits = 16 ∧ n = 2 ∨ bits = 32 ∧ n = 4 ∨ bits = 64 ∧ n = 8) (ho : o = 1 ∨ o = 2) (hl : len % n ≠ 0) :
    Calls Try.prog 26 #[.slice A len cap, .int .i64 bits, .int .i64 o] w fun e w' => e = .returned (.tuple #[.slice none 0 0, .int .i64 11]) ∧ Below w.heap.size w w' := by
  have hbits : bits = 8 ∨ bits = 16 ∨ bits = 32 ∨ bits = 64 := by omega
  have hq : bits.tdiv 8 = (n : Int) := by rcases hn with ⟨rfl, rfl⟩ | ⟨rfl, rfl⟩ | ⟨rfl, rfl⟩ | ⟨rfl, rfl⟩ <;> decide
  have hn8 : n ≤ 8 := by omega
  have hn1 : 1 ≤ n := by omega
  have hr : (len : Int).tmod (n : Int) = ((len % n : Nat) : Int) := by rw [Int.tmod_eq_emod_of_nonneg (by omega)]; omega
  generalize len % n = r at *
  have Hbits := Lib.hid hbits
  have Ho := Lib.hid ho
  have b0 : -9223372036854775808 ≤ bits := by omega
  have b1 : bits ≤ 64 := by omega
  have h1 : ((r : Int) != 0) = true := by simp; omega
  clear hn ho hbits
  go_enter Try.func26, Try.ntmps26
  go_wp2_with (go_at_call 35; refine (asked_ok bits o _ Hbits.out Ho.out).mono ?_; rintro e w1 ⟨rfl, bb⟩)
  go_ret2
  exact ⟨rfl, bb⟩

set_option maxRecDepth 100000 in
set_option maxHeartbeats 4000000 in
theorem words_ok (l : List (BitVec 8)) (A : Option Addr) (cap n : Nat) (bits o : Int) (w : World) (hr : RdB w A l) (hl : l.length ≤ cap) (hs : l.length ≤ 400) (hn : bits = 8 ∧ n = 1 ∨ bits = 16 ∧ n = 2 ∨ bits = 32 ∧ n = 4 ∨ bits = 64 ∧ n = 8) (ho : o = 1 ∨ o = 2) (hz : l.length % n = 0) :
    Calls Try.prog 25 #[.slice A l.length cap, .int .i64 bits, .int .i64 o] w fun e w' => ∃ v, e = .returned (.tuple #[v, .int .i64 0]) ∧ RdU w' v (rowOf l n o (l.length / n)) ∧ Below w.heap.size w w' := by
  obtain ⟨i0, hi, hz0, hz1, hz2⟩ := info_parts info22
  have hbits : bits = 8 ∨ bits = 16 ∨ bits = 32 ∨ bits = 64 := by omega
  have hq : bits.tdiv 8 = (n : Int) := by rcases hn with ⟨rfl, rfl⟩ | ⟨rfl, rfl⟩ | ⟨rfl, rfl⟩ | ⟨rfl, rfl⟩ <;> decide
  have hn8 : n ≤ 8 := by omega
  have hn1 : 1 ≤ n := by omega
  have hrem : (l.length : Int).tmod (n : Int) = 0 := by rw [Int.tmod_eq_emod_of_nonneg (by omega)]; omega
  obtain ⟨q, hqq⟩ : ∃ q, l.length / n = q := ⟨_, rfl⟩
  have hlq : l.length = q * n := by rw [← hqq, Nat.div_mul_cancel (Nat.dvd_of_mod_eq_zero hz)]
  have hquo : (l.length : Int).tdiv (n : Int) = (q : Int) := by rw [Int.tdiv_eq_ediv_of_nonneg (by omega), ← hqq]; omega
  have hq400 : q ≤ 400 := by have := Nat.div_le_self l.length n; omega
  rw [hqq]
  have Hbits := Lib.hid hbits
  have Ho := Lib.hid ho
  have Hr := Lib.hid hr
  have Hlq := Lib.hid hlq
  have b0 : -9223372036854775808 ≤ bits := by omega
  have b1 : bits ≤ 64 := by omega
  have c2 : (l.length : Int) ≤ (cap : Int) := by omega
  have hm := hr.1
  clear hn hbits hqq hlq hr hz
  go_enter Try.func25, Try.ntmps25
  go_wp2_with (go_at_call 33; refine (way_ok bits o _ Hbits.out Ho.out).mono ?_; rintro e w' ⟨rfl, rfl⟩)
  go_loopw [10, 29] (fun v i wr => ∃ k : Nat, k ≤ q ∧ i = .int .i64 k ∧ wr.ownsRow w.heap.size 22 1 v k (numsV (rowOf l n o k)) ∧ Below w.heap.size w wr) (fun _ i _ => q - (intOf i).toNat)
  case atStart => exact ⟨0, Nat.zero_le _, rfl, World.ownsRow_nil _ _ _ _, Below.refl _ _⟩
  case round =>
    obtain ⟨k, hk, rfl, hown, hbel⟩ := hrel
    by_cases hlt : k < q
    · have hkn : (k + 1) * n ≤ l.length := by rw [Hlq.out]; exact Nat.mul_le_mul_right n hlt
      have hk1 : (k + 1) * n = k * n + n := Nat.succ_mul k n
      have hm1 : (k : Int) * (n : Int) = ((k * n : Nat) : Int) := by push_cast; rfl
      have hm2 : ((k : Int) + 1) * (n : Int) = ((k * n + n : Nat) : Int) := by rw [← hk1]; push_cast; rfl
      rw [hk1] at hkn
      have hrow := rowOf_succ l n o k
      obtain ⟨p, hp⟩ : ∃ p, k * n = p := ⟨_, rfl⟩
      rw [hp] at hkn hm1 hm2 hrow
      have d1 : (p : Int) + n ≤ l.length := by omega
      have d2 : ((p + n : Nat) : Int) = (p : Int) + n := by push_cast; rfl
      have hdrop : n ≤ (l.drop p).length := by rw [List.length_drop]; omega
      obtain ⟨x, hx1, hx2, _⟩ := numOf_word (l.drop p) n o hdrop hn8
      have hrd : RdB wr A l := RdR.below Hr.out hbel (fun _ _ h => h)
      have hrp := (hrd.drop p cap (by omega) hl).take n
      rw [hx1] at hrp
      rw [if_neg (by omega)] at hrp
      have Hp := Lib.hid hrp
      have Hx := Lib.hid hx2
      have Hrow := Lib.hid hrow
      have hT := numOf_lt64 (l.drop p) n o hn8
      obtain ⟨T, hTT⟩ : ∃ T, numOf (l.drop p) n o = T := ⟨_, rfl⟩
      have HT := Lib.hid hTT
      rw [hTT] at hT
      clear hrp hx1 hx2 hrow hp hTT hdrop
      go_wp2_with (first | (go_at_call 36; refine (number_any x n n (cap - p) o _ _ rfl Hp.out hn8 (by omega) Ho.out).mono ?_; rintro e w' ⟨rfl, rfl⟩; rw [Hx.out, HT.out]) | (at_builtin; go_loud (refine wpList_append_own _ rfl (.tmp 32) (.tmp 44) 49 rfl w.heap.size 22 i0 (.int .u64 0) 1 8 Try.underlying49 hi hz0 hz1 hz2 rfl (by decide) _ _ _ rfl (hown.alloc _) ⟨wr.heap.size, 0, none⟩ 1 1 [.int .u64 (T : Int)] rfl rfl (cell_one_new _ _ _) (oneU _) (by unfold maxLen; omega) (by omega) (append_base hbel (Nat.le_refl _) _) ?_; intro v' w2 hown' hgrow _)) | fail)
      have hb2 : Below w.heap.size w w2 := (hbel.alloc hbel.size _).grown hgrow (by have := hbel.size; simp; omega) (own_base' hown)
      clear hgrow
      rw [numsV_snoc, ← HT.out, ← Hrow.out] at hown'
      go_roundw
      case rel => exact ⟨k + 1, by omega, by go_num, hown', hb2⟩
      case measure => simp [intOf]; omega
    · go_wp2
      go_ret2
      obtain rfl : k = q := by omega
      exact ⟨_, rfl, RdU.own hown, hbel⟩

set_option maxRecDepth 100000 in
set_option maxHeartbeats 4000000 in
theorem rwords_ok (l : List (BitVec 8)) (A : Option Addr) (cap n : Nat) (bits o : Int) (w : World) (hr : RdB w A l) (hl : l.length ≤ cap) (hs : l.length ≤ 400) (hn : bits = 8 ∧ n = 1 ∨ bits = 16 ∧ n = 2 ∨ bits = 32 ∧ n = 4 ∨ bits = 64 ∧ n = 8) (ho : o = 1 ∨ o = 2) (hz : l.length % n = 0) :
    Calls Try.prog 26 #[.slice A l.length cap, .int .i64 bits, .int .i64 o] w fun e w' => ∃ v, e = .returned (.tuple #[v, .int .i64 0]) ∧ RdU w' v (rowOf l n o (l.length / n)) ∧ Below w.heap.size w w' := by
  obtain ⟨i0, hi, hz0, hz1, hz2⟩ := info_parts info22
  have hbits : bits = 8 ∨ bits = 16 ∨ bits = 32 ∨ bits = 64 := by omega
  have hq : bits.tdiv 8 = (n : Int) := by rcases hn with ⟨rfl, rfl⟩ | ⟨rfl, rfl⟩ | ⟨rfl, rfl⟩ | ⟨rfl, rfl⟩ <;> decide
  have hn8 : n ≤ 8 := by omega
  have hn1 : 1 ≤ n := by omega
  have hbn : (bits / 8).toNat = n := by omega
  have hcode : code bits o = 0 := by unfold code; rw [if_pos hbits, if_pos ho]
  have hrem : (l.length : Int).tmod (n : Int) = 0 := by rw [Int.tmod_eq_emod_of_nonneg (by omega)]; omega
  obtain ⟨q, hqq⟩ : ∃ q, l.length / n = q := ⟨_, rfl⟩
  have hlq : l.length = q * n := by rw [← hqq, Nat.div_mul_cancel (Nat.dvd_of_mod_eq_zero hz)]
  have hq400 : q ≤ 400 := by have := Nat.div_le_self l.length n; omega
  rw [hqq]
  have Hbits := Lib.hid hbits
  have Ho := Lib.hid ho
  have Hr := Lib.hid hr
  have Hlq := Lib.hid hlq
  have Hbn := Lib.hid hbn
  have Hcode := Lib.hid hcode
  have b0 : -9223372036854775808 ≤ bits := by omega
  have b1 : bits ≤ 64 := by omega
  have c2 : (l.length : Int) ≤ (cap : Int) := by omega
  have hm := hr.1
  clear hn hbits hqq hlq hr hz hbn hcode
  go_enter Try.func26, Try.ntmps26
  go_wp2_with (go_at_call 35; refine (asked_ok bits o _ Hbits.out Ho.out).mono ?_; rintro e w1 ⟨rfl, bb⟩)
  go_loopw [9, 10] (fun v i wr => ∃ k : Nat, k ≤ q ∧ i = .int .i64 ((k * n : Nat) : Int) ∧ wr.ownsRow w.heap.size 22 1 v k (numsV (rowOf l n o k)) ∧ Below w.heap.size w wr) (fun _ i _ => l.length - (intOf i).toNat)
  case atStart => exact ⟨0, Nat.zero_le _, by simp, World.ownsRow_nil _ _ _ _, bb⟩
  case round =>
    obtain ⟨k, hk, rfl, hown, hbel⟩ := hrel
    have hkl : k * n ≤ l.length := by rw [Hlq.out]; exact Nat.mul_le_mul_right n hk
    by_cases hlt : k < q
    · have hkn : (k + 1) * n ≤ l.length := by rw [Hlq.out]; exact Nat.mul_le_mul_right n hlt
      have hk1 : (k + 1) * n = k * n + n := Nat.succ_mul k n
      rw [hk1] at hkn
      have hrow := rowOf_succ l n o k
      obtain ⟨p, hp⟩ : ∃ p, k * n = p := ⟨_, rfl⟩
      rw [hp] at hkn hrow hk1 hkl ⊢
      have d1 : (p : Int) + n ≤ l.length := by omega
      have d3 : (p : Int) < l.length := by omega
      have hdrop : n ≤ (l.drop p).length := by rw [List.length_drop]; omega
      have hrd : RdB wr A l := RdR.below Hr.out hbel (fun _ _ h => h)
      have hrp := hrd.drop p cap (by omega) hl
      rw [if_neg (by omega)] at hrp
      have hlen : (l.drop p).length = l.length - p := List.length_drop
      have he : wordE (l.drop p) bits o = 0 := by unfold wordE; rw [if_pos Hcode.out, Hbn.out, if_neg (by omega)]
      have hv : wordV (l.drop p) bits o = numOf (l.drop p) n o := by rw [wordV, if_pos he, Hbn.out]
      have Hp := Lib.hid hrp
      have Hrow := Lib.hid hrow
      have hT := numOf_lt64 (l.drop p) n o hn8
      obtain ⟨T, hTT⟩ : ∃ T, numOf (l.drop p) n o = T := ⟨_, rfl⟩
      have HT := Lib.hid hTT
      rw [hTT] at hT hv
      have Hlen := Lib.hid hlen
      have He := Lib.hid (And.intro he hv)
      have Hk1 := Lib.hid hk1
      have hW := rword_gen (l.drop p) (Option.map (fun x => x.add p) A) (cap - p) bits o wr hrp (by rw [hlen]; omega)
      rw [hlen, he, hv] at hW
      have HW := Lib.hid hW
      clear hrp hrow hp hTT hdrop hlen he hv hW hk1
      go_wp2_with (first | (go_at_call 24; refine HW.out.mono ?_; rintro e w3 ⟨rfl, b3⟩) | (at_builtin; go_loud (refine wpList_append_own _ rfl (.tmp 42) (.tmp 44) 49 rfl w.heap.size 22 i0 (.int .u64 0) 1 8 Try.underlying49 hi hz0 hz1 hz2 rfl (by decide) _ _ _ rfl (World.ownsRow.alloc (own_below hown b3) _) ⟨w3.heap.size, 0, none⟩ 1 1 [.int .u64 (T : Int)] rfl rfl (cell_one_new _ _ _) (oneU _) (by unfold maxLen; omega) (by omega) (append_base (hbel.trans (b3.mono hbel.size)) (Nat.le_refl _) _) ?_; intro v' w2 hown' hgrow _)) | fail)
      have hbel3 := hbel.trans (b3.mono hbel.size)
      have hb2 : Below w.heap.size w w2 := (hbel3.alloc hbel3.size _).grown hgrow (by have := hbel3.size; simp; omega) (own_base' hown)
      clear hgrow
      rw [numsV_snoc, ← HT.out, ← Hrow.out] at hown'
      go_roundw
      case rel => exact ⟨k + 1, by omega, by rw [Hk1.out]; go_num, hown', hb2⟩
      case measure => simp [intOf]; omega
    · obtain rfl : k = q := by omega
      have Hl2 := Hlq.out
      rw [← Hl2]
      go_wp2
      go_ret2
      exact ⟨_, rfl, RdU.own hown, hbel⟩
end Go.Proofs.Ytecaiaobbjddeaa
