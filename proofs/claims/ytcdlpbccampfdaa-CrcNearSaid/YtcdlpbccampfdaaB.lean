import Derived.Test.YtcdlpbccampfdaaA
import Derived.Deep.QuietTactic
import Derived.BigQuiet
/-! Rows that are read, and the walks that read them. -/
namespace Go.Proofs.Ytcdlpbccampfdaa
open Go.RowKit
set_option linter.unusedVariables false
set_option linter.unusedSimpArgs false

/-- A row of one-cell elements as it is read: element j lies at its place and is what R says. -/
def RdR {α : Type} (R : α → Value → Prop) (w : World) (A : Option Addr) (l : List α) : Prop :=
  l.length ≤ 9223372036854775807 ∧ ∀ j (h : j < l.length), ∃ ad v, A = some ad ∧ w.cell? (ad.add j) = some v ∧ R l[j] v
/-- A byte. -/
def EqB (x : BitVec 8) (v : Value) : Prop := v = .int .u8 (x.toNat : Int)
abbrev RdB (w : World) (A : Option Addr) (l : List (BitVec 8)) : Prop := RdR EqB w A l

theorem RdR.below {α : Type} {R R' : α → Value → Prop} {w w' : World} {A : Option Addr} {l : List α} (h : RdR R w A l) (hb : Below w.heap.size w w') (hR : ∀ x v, R x v → R' x v) : RdR R' w' A l :=
  ⟨h.1, fun j hj => by
    obtain ⟨ad, v, e, hc, hr⟩ := h.2 j hj
    exact ⟨ad, v, e, (hb.cell (World.block_lt_of_cell? w _ hc)).trans hc, hR _ _ hr⟩⟩
theorem RdB.at' {w : World} {A : Option Addr} {l : List (BitVec 8)} (h : RdB w A l) (k : Nat) (hk : k < l.length) : ∃ ad, A = some ad ∧ w.cell? (ad.add k) = some (.int .u8 (l[k].toNat : Int)) := by
  obtain ⟨ad, v, e, hc, hr⟩ := h.2 k hk
  exact ⟨ad, e, by rw [hc, hr]⟩
open M
theorem not32 (s : BitVec 32) : bits .xor .u32 IntKind.u32.max (s.toNat : Int) = ((~~~ s).toNat : Int) := by
  rw [show IntKind.u32.max = (((-1#32 : BitVec 32)).toNat : Int) from rfl, xor32]
  congr 2
theorem take_run (r : BitVec 32) (l : List (BitVec 8)) (k : Nat) (hk : k < l.length) : run r (l.take (k + 1)) = inC (run r (l.take k)) l[k] := by
  rw [List.take_succ_eq_append_getElem hk, run_append]; rfl

theorem add_any (s : BitVec 32) (l : List (BitVec 8)) (A : Option Addr) (c : Nat) (w : World) (hrd : RdB w A l) :
    Calls Try.prog 10 #[.int .u32 s.toNat, .slice A l.length c] w fun e w' => e = .returned (.int .u32 (add s l).toNat) ∧ w = w' := by
  have hm := hrd.1
  go_enter Try.func10, Try.ntmps10
  go_wp2
  rw [not32]
  obtain ⟨S, hS⟩ : ∃ S, S = ~~~ s := ⟨_, rfl⟩
  rw [← hS]
  have HS := Lib.hid hS
  clear hS
  go_loop [5, 7, 12] (fun r c i => ∃ k : Nat, k ≤ l.length ∧ i = .int .i64 k ∧ r = .int .u32 (run S (l.take k)).toNat) (fun _ _ i => l.length - (intOf i).toNat)
  case atStart => exact ⟨0, Nat.zero_le _, rfl, rfl⟩
  case round =>
    obtain ⟨k, hk, rfl, rfl⟩ := hrel
    by_cases hlt : k < l.length
    · obtain ⟨ad, rfl, hc⟩ := RdB.at' hrd k hlt
      have HT := Lib.hid (take_run S l k hlt)
      generalize run S (l.take k) = R at HT ⊢
      go_wp2_with (go_at_call 23; refine (in_any R l[k] _).mono ?_; rintro e w' ⟨rfl, rfl⟩)
      go_round
      case rel => exact ⟨k + 1, by omega, by go_num, by rw [HT.out]⟩
      case measure => simp [intOf]; omega
    · go_wp2
      go_ret
      obtain rfl : k = l.length := by omega
      exact ⟨ret_int (by rw [List.take_length, not32, HS.out]; rfl), rfl⟩

theorem radd_any (s : BitVec 32) (l : List (BitVec 8)) (A : Option Addr) (c : Nat) (w : World) (hrd : RdB w A l) :
    Calls Try.prog 11 #[.int .u32 s.toNat, .slice A l.length c] w fun e w' => e = .returned (.int .u32 (add s l).toNat) ∧ w = w' := by
  have hm := hrd.1
  go_enter Try.func11, Try.ntmps11
  go_wp2
  rw [not32]
  obtain ⟨S, hS⟩ : ∃ S, S = ~~~ s := ⟨_, rfl⟩
  rw [← hS]
  have HS := Lib.hid hS
  clear hS
  go_loop [5, 6] (fun r i => ∃ k : Nat, k ≤ l.length ∧ i = .int .i64 k ∧ r = .int .u32 (run S (l.take k)).toNat) (fun _ i => l.length - (intOf i).toNat)
  case atStart => exact ⟨0, Nat.zero_le _, rfl, rfl⟩
  case round =>
    obtain ⟨k, hk, rfl, rfl⟩ := hrel
    by_cases hlt : k < l.length
    · obtain ⟨ad, rfl, hc⟩ := RdB.at' hrd k hlt
      have HT := Lib.hid (take_run S l k hlt)
      generalize run S (l.take k) = R at HT ⊢
      go_wp2_with (go_at_call 24; refine (rin_any R l[k] _).mono ?_; rintro e w' ⟨rfl, rfl⟩)
      go_round
      case rel => exact ⟨k + 1, by omega, by go_num, by rw [HT.out]⟩
      case measure => simp [intOf]; omega
    · go_wp2
      go_ret
      obtain rfl : k = l.length := by omega
      exact ⟨ret_int (by rw [List.take_length, not32, HS.out]; rfl), rfl⟩

/-- Some orders have been drawn, no more. -/
def Drawn (w w' : World) : Prop := ∃ n, w' = w.drewN n
theorem Drawn.refl (w : World) : Drawn w w := ⟨0, rfl⟩
theorem Drawn.below {w w' : World} (h : Drawn w w') : Below w.heap.size w w' := by
  obtain ⟨n, rfl⟩ := h
  exact ⟨rfl, rfl, rfl, Nat.le_refl _, fun _ _ => rfl⟩
theorem Drawn.cell {w w' : World} (h : Drawn w w') {a : Addr} {v : Value} (hc : w.cell? a = some v) : w'.cell? a = some v := by
  obtain ⟨n, rfl⟩ := h; exact hc
theorem Drawn.drewN {w w' : World} (h : Drawn w w') (n : Nat) : Drawn w (w'.drewN n) := by
  obtain ⟨m, rfl⟩ := h; exact ⟨m + n, World.drewN_drewN ..⟩
theorem out_eq (r : BitVec 32) (x : BitVec 8) : bits .xor .u32 ((backN 8 r).toNat : Int) (x.toNat : Int) = ((outC r x).toNat : Int) := by
  have h := x.isLt
  have e : (x.toNat : Int) = ((x.setWidth 32).toNat : Int) := by rw [BitVec.toNat_setWidth]; omega
  rw [e, xor32]; rfl
theorem drop_all (r : BitVec 32) (l : List (BitVec 8)) : unrun r (l.drop ((l.length : Int) - 1 + 1).toNat) = r := by
  have e : l.drop ((l.length : Int) - 1 + 1).toNat = [] := by rw [show ((l.length : Int) - 1 + 1).toNat = l.length by omega, List.drop_length]
  rw [e]; rfl
theorem drop_unrun (r : BitVec 32) (l : List (BitVec 8)) (k : Nat) (hk : k < l.length) : unrun r (l.drop k) = outC (unrun r (l.drop (k + 1))) l[k] := by
  rw [List.drop_eq_getElem_cons hk]; rfl

theorem back_any (s : BitVec 32) (l : List (BitVec 8)) (A : Option Addr) (c : Nat) (w : World) (hrd : RdB w A l) :
    Calls Try.prog 19 #[.int .u32 s.toNat, .slice A l.length c] w fun e w' => e = .returned (.int .u32 (unadd s l).toNat) ∧ Drawn w w' := by
  have hm := hrd.1
  go_enter Try.func19, Try.ntmps19
  go_wp2
  rw [not32]
  obtain ⟨S, hS⟩ : ∃ S, S = ~~~ s := ⟨_, rfl⟩
  rw [← hS]
  have HS := Lib.hid hS
  clear hS
  go_loopw [5, 6] (fun r i wr => ∃ n : Int, -1 ≤ n ∧ n < l.length ∧ i = .int .i64 n ∧ r = .int .u32 (unrun S (l.drop (n + 1).toNat)).toNat ∧ Drawn w wr) (fun _ i _ => (intOf i + 1).toNat)
  case atStart => exact ⟨(l.length : Int) - 1, by omega, by omega, rfl, by rw [drop_all], Drawn.refl _⟩
  case round =>
    obtain ⟨n, hn0, hn, rfl, rfl, hD⟩ := hrel
    by_cases hlt : 0 ≤ n
    · obtain ⟨k, rfl⟩ : ∃ k : Nat, n = k := ⟨n.toNat, by omega⟩
      have hk : k < l.length := by omega
      obtain ⟨ad, rfl, hc⟩ := RdB.at' hrd k hk
      rw [show ((k : Int) + 1).toNat = k + 1 by omega]
      replace hc := hD.cell hc
      have HT := Lib.hid (drop_unrun S l k hk)
      generalize unrun S (l.drop (k + 1)) = R at HT ⊢
      go_wp2
      go_quiet ((go_at_call 26; exact Calls.quiet_of_same ((out_any R _).mono fun _ _ h => ⟨h.1, h.2.symm⟩)))
      go_wp2
      go_roundw
      case rel => exact ⟨(k : Int) - 1, by omega, by omega, rfl, by rw [show ((k : Int) - 1 + 1).toNat = k by omega, HT.out, out_eq], hD.drewN _⟩
      case measure => simp [intOf]
    · go_wp2
      go_ret
      obtain rfl : n = -1 := by omega
      exact ⟨ret_int (by rw [not32, HS.out]; rfl), hD⟩

theorem rback_any (s : BitVec 32) (l : List (BitVec 8)) (A : Option Addr) (c : Nat) (w : World) (hrd : RdB w A l) :
    Calls Try.prog 21 #[.int .u32 s.toNat, .slice A l.length c] w fun e w' => e = .returned (.int .u32 (unadd s l).toNat) ∧ w = w' := by
  have hm := hrd.1
  go_enter Try.func21, Try.ntmps21
  go_wp2
  rw [not32]
  obtain ⟨S, hS⟩ : ∃ S, S = ~~~ s := ⟨_, rfl⟩
  rw [← hS]
  have HS := Lib.hid hS
  clear hS
  go_loop [5, 6] (fun r i => ∃ n : Int, -1 ≤ n ∧ n < l.length ∧ i = .int .i64 n ∧ r = .int .u32 (unrun S (l.drop (n + 1).toNat)).toNat) (fun _ i => (intOf i + 1).toNat)
  case atStart => exact ⟨(l.length : Int) - 1, by omega, by omega, rfl, by rw [drop_all]⟩
  case round =>
    obtain ⟨n, hn0, hn, rfl, rfl⟩ := hrel
    by_cases hlt : 0 ≤ n
    · obtain ⟨k, rfl⟩ : ∃ k : Nat, n = k := ⟨n.toNat, by omega⟩
      have hk : k < l.length := by omega
      obtain ⟨ad, rfl, hc⟩ := RdB.at' hrd k hk
      rw [show ((k : Int) + 1).toNat = k + 1 by omega]
      have HT := Lib.hid (drop_unrun S l k hk)
      generalize unrun S (l.drop (k + 1)) = R at HT ⊢
      go_wp2_with (go_at_call 28; refine (rout_any R l[k] _).mono ?_; rintro e w' ⟨rfl, rfl⟩)
      go_round
      case rel => exact ⟨(k : Int) - 1, by omega, by omega, rfl, by rw [show ((k : Int) - 1 + 1).toNat = k by omega, HT.out]⟩
      case measure => simp [intOf]
    · go_wp2
      go_ret
      obtain rfl : n = -1 := by omega
      exact ⟨ret_int (by rw [not32, HS.out]; rfl), rfl⟩

/-- A slice of bytes as a value. -/
def EqP (w : World) (p : List (BitVec 8)) (v : Value) : Prop := ∃ A c, v = .slice A p.length c ∧ p.length ≤ c ∧ RdB w A p
abbrev RdP (w : World) (A : Option Addr) (ps : List (List (BitVec 8))) : Prop := RdR (EqP w) w A ps
theorem EqP.below {w w' : World} (hb : Below w.heap.size w w') (p : List (BitVec 8)) (v : Value) (h : EqP w p v) : EqP w' p v := by
  obtain ⟨A, c, e, hl, hr⟩ := h
  exact ⟨A, c, e, hl, hr.below hb (fun _ _ h => h)⟩
theorem RdP.at' {w : World} {A : Option Addr} {ps : List (List (BitVec 8))} (h : RdP w A ps) (k : Nat) (hk : k < ps.length) : ∃ ad A' c, A = some ad ∧ w.cell? (ad.add k) = some (.slice A' ps[k].length c) ∧ ps[k].length ≤ c ∧ RdB w A' ps[k] := by
  obtain ⟨ad, v, e, hc, A', c, rfl, hl, hr⟩ := h.2 k hk
  exact ⟨ad, A', c, e, hc, hl, hr⟩
theorem take_sums (s : BitVec 32) (ps : List (List (BitVec 8))) (k : Nat) (hk : k < ps.length) : sums s (ps.take (k + 1)) = add (sums s (ps.take k)) ps[k] := by
  unfold sums
  rw [List.take_succ_eq_append_getElem hk, List.foldl_append]; rfl

theorem of_any (ps : List (List (BitVec 8))) (A : Option Addr) (c : Nat) (w : World) (hrd : RdP w A ps) :
    Calls Try.prog 12 #[.slice A ps.length c] w fun e w' => e = .returned (.int .u32 (sums 0#32 ps).toNat) ∧ w = w' := by
  have hm := hrd.1
  go_enter Try.func12, Try.ntmps12
  go_wp2
  go_loop [3, 5, 8] (fun r p i => ∃ k : Nat, k ≤ ps.length ∧ i = .int .i64 k ∧ r = .int .u32 (sums 0#32 (ps.take k)).toNat) (fun _ _ i => ps.length - (intOf i).toNat)
  case atStart => exact ⟨0, Nat.zero_le _, rfl, rfl⟩
  case round =>
    obtain ⟨k, hk, rfl, rfl⟩ := hrel
    by_cases hlt : k < ps.length
    · obtain ⟨ad, A', c', rfl, hc, hle, hr⟩ := RdP.at' hrd k hlt
      have HT := Lib.hid (take_sums 0#32 ps k hlt)
      generalize sums 0#32 (ps.take k) = R at HT ⊢
      go_wp2_with (go_at_call 10; refine (add_any R _ _ _ _ hr).mono ?_; rintro e w' ⟨rfl, rfl⟩)
      go_round
      case rel => exact ⟨k + 1, by omega, by go_num, by rw [HT.out]⟩
      case measure => simp [intOf]; omega
    · go_wp2
      go_ret
      obtain rfl : k = ps.length := by omega
      exact ⟨ret_int (by rw [List.take_length]), rfl⟩

theorem rof_any (ps : List (List (BitVec 8))) (A : Option Addr) (c : Nat) (w : World) (hrd : RdP w A ps) :
    Calls Try.prog 13 #[.slice A ps.length c] w fun e w' => e = .returned (.int .u32 (sums 0#32 ps).toNat) ∧ w = w' := by
  have hm := hrd.1
  go_enter Try.func13, Try.ntmps13
  go_wp2
  go_loop [3, 4] (fun r i => ∃ k : Nat, k ≤ ps.length ∧ i = .int .i64 k ∧ r = .int .u32 (sums 0#32 (ps.take k)).toNat) (fun _ i => ps.length - (intOf i).toNat)
  case atStart => exact ⟨0, Nat.zero_le _, rfl, rfl⟩
  case round =>
    obtain ⟨k, hk, rfl, rfl⟩ := hrel
    by_cases hlt : k < ps.length
    · obtain ⟨ad, A', c', rfl, hc, hle, hr⟩ := RdP.at' hrd k hlt
      have HT := Lib.hid (take_sums 0#32 ps k hlt)
      generalize sums 0#32 (ps.take k) = R at HT ⊢
      go_wp2_with (go_at_call 11; refine (radd_any R _ _ _ _ hr).mono ?_; rintro e w' ⟨rfl, rfl⟩)
      go_round
      case rel => exact ⟨k + 1, by omega, by go_num, by rw [HT.out]⟩
      case measure => simp [intOf]; omega
    · go_wp2
      go_ret
      obtain rfl : k = ps.length := by omega
      exact ⟨ret_int (by rw [List.take_length]), rfl⟩

theorem one_any (l : List (BitVec 8)) (A : Option Addr) (c : Nat) (w : World) (hrd : RdB w A l) :
    Calls Try.prog 17 #[.slice A l.length c] w fun e w' => e = .returned (.int .u32 (add 0#32 l).toNat) ∧ w = w' := by
  go_enter Try.func17, Try.ntmps17
  go_wp2_with (go_at_call 11; refine (radd_any 0#32 _ _ _ _ hrd).mono ?_; rintro e w' ⟨rfl, rfl⟩)
  go_ret
  exact ⟨rfl, rfl⟩
end Go.Proofs.Ytcdlpbccampfdaa
