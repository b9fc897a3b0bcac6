import Derived.Test.YtpdigpfjmpaooaaK
import Derived.Test.YtpdigpfjmpaooaaChecked
import Derived.Laws.BitsAllLaws
/-! Settings, gears, hashes. -/
namespace Go.Proofs.Ytpdigpfjmpaooaa
open Go.RowKit
set_option linter.unusedVariables false
set_option linter.unusedSimpArgs false
abbrev confV (le mo bi : Int) : Value := .agg #[.int .i64 le, .int .i64 mo, .int .i64 bi]
abbrev confO (le mo bi : Int) : Obj := .cells #[.int .i64 le, .int .i64 mo, .int .i64 bi] 23
def okC (le mo bi : Int) : Prop := 1 ≤ le ∧ le ≤ mo ∧ mo ≤ 4096 ∧ 0 ≤ bi ∧ bi ≤ 20
instance (le mo bi : Int) : Decidable (okC le mo bi) := by unfold okC; infer_instance
def checkC (le mo bi : Int) : Int := if okC le mo bi then 0 else 80
theorem not_ok {le mo bi : Int} (h : ¬ okC le mo bi) : le < 1 ∨ (1 ≤ le ∧ mo < le) ∨ (1 ≤ le ∧ le ≤ mo ∧ 4096 < mo) ∨ (1 ≤ le ∧ le ≤ mo ∧ mo ≤ 4096 ∧ bi < 0) ∨ (1 ≤ le ∧ le ≤ mo ∧ mo ≤ 4096 ∧ 0 ≤ bi ∧ 20 < bi) := by
  unfold okC at h; omega
theorem check_any (le mo bi : Int) (w : World) : Calls Try.prog 17 #[confV le mo bi] w fun e w' => e = .returned (.int .i64 (checkC le mo bi)) ∧ w.alloc (confO le mo bi) = w' := by
  by_cases h : okC le mo bi
  · rw [checkC, if_pos h]
    obtain ⟨h1, h2, h3, h4, h5⟩ := h
    go_enter Try.func17, Try.ntmps17
    go_wp2
    go_ret
    exact ⟨rfl, rfl⟩
  · rw [checkC, if_neg h]
    have hn := not_ok h
    clear h
    rcases hn with h | ⟨h1, h⟩ | ⟨h1, h2, h⟩ | ⟨h1, h2, h3, h⟩ | ⟨h1, h2, h3, h4, h⟩
    all_goals
      go_enter Try.func17, Try.ntmps17
      go_wp2
      go_ret
      exact ⟨rfl, rfl⟩
theorem rcheck_any (le mo bi : Int) (w : World) : Calls Try.prog 16 #[confV le mo bi] w fun e w' => e = .returned (.int .i64 (checkC le mo bi)) ∧ w.alloc (confO le mo bi) = w' := by
  by_cases h : okC le mo bi
  · rw [checkC, if_pos h]
    obtain ⟨h1, h2, h3, h4, h5⟩ := h
    go_enter Try.func16, Try.ntmps16
    go_wp2
    go_ret
    exact ⟨rfl, rfl⟩
  · rw [checkC, if_neg h]
    have hn := not_ok h
    clear h
    rcases hn with h | ⟨h1, h⟩ | ⟨h1, h2, h⟩ | ⟨h1, h2, h3, h⟩ | ⟨h1, h2, h3, h4, h⟩
    all_goals
      go_enter Try.func16, Try.ntmps16
      go_wp2
      go_ret
      exact ⟨rfl, rfl⟩
/-- A byte's gear. -/
def gear1 (a : Nat) : Nat := (a ^^^ a / 536870912) * 13787848793156543929 % 18446744073709551616
def gear2 (b : Nat) : Nat := b ^^^ b / 4294967296
def gearN (x : Nat) : Nat := gear2 (gear1 ((x + 1) * 11400714819323198485 % 18446744073709551616))
theorem mod64 (a : Nat) : a % 18446744073709551616 < 18446744073709551616 := Nat.mod_lt _ (by decide)
theorem xor_lt64 {a b : Nat} (ha : a < 18446744073709551616) (hb : b < 18446744073709551616) : a ^^^ b < 18446744073709551616 := Nat.xor_lt_two_pow (n := 64) ha hb
theorem wrap_mul (x k : Nat) : IntKind.u64.wrap ((x : Int) * (k : Int)) = ((x * k % 18446744073709551616 : Nat) : Int) := by rw [IntKind.wrap_u64, ← Int.natCast_mul]; rfl
theorem xor_shift (a k : Nat) (ha : a < 18446744073709551616) : bits BinOp.xor IntKind.u64 (a : Int) ((a : Int) / (k : Int)) = ((a ^^^ a / k : Nat) : Int) := by
  have e : (a : Int) / (k : Int) = ((a / k : Nat) : Int) := (Int.natCast_ediv a k).symm
  rw [e, u64_xor_nat a (a / k) ha (Nat.lt_of_le_of_lt (Nat.div_le_self _ _) ha)]
theorem gear1_lt (a : Nat) : gear1 a < 18446744073709551616 := mod64 _
theorem gear2_lt (b : Nat) (hb : b < 18446744073709551616) : gear2 b < 18446744073709551616 := xor_lt64 hb (Nat.lt_of_le_of_lt (Nat.div_le_self _ _) hb)
theorem gearN_lt (x : Nat) : gearN x < 18446744073709551616 := gear2_lt _ (gear1_lt _)
theorem gear_eq2 (a : Nat) (ha : a < 18446744073709551616) : bits BinOp.xor IntKind.u64 (IntKind.u64.wrap (bits BinOp.xor IntKind.u64 (a : Int) ((a : Int) / 536870912) * 13787848793156543929)) (IntKind.u64.wrap (bits BinOp.xor IntKind.u64 (a : Int) ((a : Int) / 536870912) * 13787848793156543929) / 4294967296) = ((gear2 (gear1 a) : Nat) : Int) := by
  have e2 : bits BinOp.xor IntKind.u64 (a : Int) ((a : Int) / 536870912) = ((a ^^^ a / 536870912 : Nat) : Int) := xor_shift a 536870912 ha
  have e3 : IntKind.u64.wrap (((a ^^^ a / 536870912 : Nat) : Int) * 13787848793156543929) = ((gear1 a : Nat) : Int) := wrap_mul _ 13787848793156543929
  rw [e2, e3]
  exact xor_shift (gear1 a) 4294967296 (gear1_lt a)
theorem gear_eq (x : Nat) : bits BinOp.xor IntKind.u64 (IntKind.u64.wrap (bits BinOp.xor IntKind.u64 (IntKind.u64.wrap (((x : Int) + 1) * 11400714819323198485)) (IntKind.u64.wrap (((x : Int) + 1) * 11400714819323198485) / 536870912) * 13787848793156543929))
    (IntKind.u64.wrap (bits BinOp.xor IntKind.u64 (IntKind.u64.wrap (((x : Int) + 1) * 11400714819323198485)) (IntKind.u64.wrap (((x : Int) + 1) * 11400714819323198485) / 536870912) * 13787848793156543929) / 4294967296) = (gearN x : Int) := by
  have e1 : IntKind.u64.wrap (((x : Int) + 1) * 11400714819323198485) = (((x + 1) * 11400714819323198485 % 18446744073709551616 : Nat) : Int) := wrap_mul (x + 1) 11400714819323198485
  rw [e1]
  show _ = ((gear2 (gear1 ((x + 1) * 11400714819323198485 % 18446744073709551616)) : Nat) : Int)
  exact gear_eq2 _ (mod64 _)
theorem gear_any (x : BitVec 8) (w : World) : Calls Try.prog 18 #[.int .u8 x.toNat] w fun e w' => e = .returned (.int .u64 (gearN x.toNat)) ∧ w = w' := by
  have HG := Lib.hid (gear_eq x.toNat)
  have hx := x.isLt
  generalize x.toNat = n at *
  go_enter Try.func18, Try.ntmps18
  go_wp2
  go_ret
  exact ⟨ret_int HG.out, rfl⟩
theorem rgear_any (x : BitVec 8) (w : World) : Calls Try.prog 19 #[.int .u8 x.toNat] w fun e w' => e = .returned (.int .u64 (gearN x.toNat)) ∧ w = w' := by
  have HG := Lib.hid (gear_eq x.toNat)
  have hx := x.isLt
  generalize x.toNat = n at *
  go_enter Try.func19, Try.ntmps19
  go_wp2
  go_ret
  exact ⟨ret_int HG.out, rfl⟩
/-- A hash behind one more byte. -/
def hashN (h x : Nat) : Nat := (2 * h + gearN x) % 18446744073709551616
theorem hashN_lt (h x : Nat) : hashN h x < 18446744073709551616 := mod64 _
/-- .. behind some. -/
def hashL (h : Nat) (l : List (BitVec 8)) : Nat := l.foldl (fun h x => hashN h x.toNat) h
theorem hashL_take (h : Nat) (l : List (BitVec 8)) (k : Nat) (hk : k < l.length) : hashL h (l.take (k + 1)) = hashN (hashL h (l.take k)) l[k].toNat := by
  unfold hashL
  rw [List.take_succ_eq_append_getElem hk, List.foldl_append, List.foldl_cons, List.foldl_nil]
theorem hashL_lt (h : Nat) (l : List (BitVec 8)) (hh : h < 18446744073709551616) : hashL h l < 18446744073709551616 := by
  unfold hashL
  induction l generalizing h with
  | nil => exact hh
  | cons x l ih => exact ih _ (hashN_lt _ _)
theorem hash_step (h g : Nat) : IntKind.u64.wrap (IntKind.u64.wrap ((h : Int) * 2) + (g : Int)) = (((2 * h + g) % 18446744073709551616 : Nat) : Int) := by
  rw [IntKind.wrap_u64, IntKind.wrap_u64]; omega
theorem hash_step2 (h g : Nat) : IntKind.u64.wrap (IntKind.u64.wrap (2 * (h : Int)) + (g : Int)) = (((2 * h + g) % 18446744073709551616 : Nat) : Int) := by
  rw [IntKind.wrap_u64, IntKind.wrap_u64]; omega
set_option maxRecDepth 100000 in
set_option maxHeartbeats 2000000 in
theorem hash_any (h : Nat) (hh : h < 18446744073709551616) (l : List (BitVec 8)) (A : Option Addr) (cap : Nat) (w : World) (hr : RdB w A l) (hl : l.length ≤ cap) :
    Calls Try.prog 20 #[.int .u64 h, .slice A l.length cap] w fun e w' => e = .returned (.int .u64 (hashL h l)) ∧ w = w' := by
  have hm := hr.1
  have Hr := Lib.hid hr
  clear hr
  obtain ⟨T, hT⟩ : ∃ T, hashL h l = T := ⟨_, rfl⟩
  rw [hT]
  have HT := Lib.hid hT
  clear hT
  go_enter Try.func20, Try.ntmps20
  go_wp2
  go_loop [0, 9] (fun v i => ∃ k : Nat, k ≤ l.length ∧ i = .int .i64 k ∧ v = .int .u64 (hashL h (l.take k) : Nat)) (fun _ i => l.length - (intOf i).toNat)
  case atStart => exact ⟨0, Nat.zero_le _, rfl, by simp [hashL]⟩
  case round =>
    obtain ⟨k, hk, rfl, rfl⟩ := hrel
    by_cases hlt : k < l.length
    · obtain ⟨ad, rfl, hcell⟩ := Hr.out.at' k hlt
      have hst := hashL_take h l k hlt
      have hlt64 := hashL_lt h (l.take k) hh
      generalize hX : l[k] = X at *
      generalize hashL h (l.take k) = H at *
      have Hst := Lib.hid hst
      have HX := Lib.hid hX
      have hs := hash_step H (gearN X.toNat)
      have hg := gearN_lt X.toNat
      obtain ⟨G, hG⟩ : ∃ G, gearN X.toNat = G := ⟨_, rfl⟩
      rw [hG] at hs hg
      have HG := Lib.hid hG
      have hlt' : (2 * H + G) % 18446744073709551616 < 18446744073709551616 := mod64 _
      obtain ⟨R, hR⟩ : ∃ R, (2 * H + G) % 18446744073709551616 = R := ⟨_, rfl⟩
      rw [hR] at hs hlt'
      have HR := Lib.hid hR
      clear hst hX hG hR
      go_wp2_with (go_at_call 18; refine (gear_any X _).mono ?_; rintro e w' ⟨rfl, rfl⟩; rw [HG.out])
      go_round
      case rel => exact ⟨k + 1, by omega, by go_num, by rw [Hst.out, hashN, HG.out, HR.out]⟩
      case measure => simp [intOf]; omega
    · go_wp2
      go_ret
      obtain rfl : k = l.length := by omega
      exact ⟨ret_int (by rw [List.take_length]; rw [HT.out]), rfl⟩
end Go.Proofs.Ytpdigpfjmpaooaa
