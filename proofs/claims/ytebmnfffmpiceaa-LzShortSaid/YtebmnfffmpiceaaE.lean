import Derived.Test.YtebmnfffmpiceaaD
import Derived.Maps.OwnSet
import Derived.DeepKeys4
import Derived.WideKeyPair
/-! The finder in memory: its map, its row of places. -/
namespace Go.Proofs.Ytebmnfffmpiceaa
open Go.RowKit
set_option linter.unusedVariables false
set_option linter.unusedSimpArgs false
theorem laidOutP : laidOutB Try.prog = true := by kernel_rfl
theorem lawK : Go.Maps.Keyed Try.prog 58 := Go.Maps.Keyed.of_law (deep_law_laid laidOutP (m := Try.prog.types.size + 1) (of_decide_eq_true (by kernel_rfl)) (of_decide_eq_true (by kernel_rfl)) (by kernel_rfl) (by kernel_rfl))
theorem zero3 (w : World) : (zeroValue 3).run Try.prog w = .ok (.int .i64 0) w := by kernel_rfl
abbrev lits4 (x0 x1 x2 x3 : BitVec 8) : List Lit := [.int .u8 x0.toNat, .int .u8 x1.toNat, .int .u8 x2.toNat, .int .u8 x3.toNat]
def keyLit (x0 x1 x2 x3 : BitVec 8) : Lit := .string (keyBytes (lits4 x0 x1 x2 x3))
theorem wf8 (x : BitVec 8) : (Lit.int .u8 x.toNat).wf = true := by
  have := x.isLt
  simp [Lit.wf, IntKind.min, IntKind.max, IntKind.signed, IntKind.bits]; omega
theorem arrK : Go.WideMaps.ArrKey Try.prog 58 5 4 := ⟨Try.underlying58, by kernel_rfl, by kernel_rfl, by kernel_rfl⟩
theorem keyLits_four (m : Nat) (x0 x1 x2 x3 : BitVec 8) : Try.prog.keyLits (m + 2) 58 [.int .u8 x0.toNat, .int .u8 x1.toNat, .int .u8 x2.toNat, .int .u8 x3.toNat] = some (lits4 x0 x1 x2 x3) := by
  unfold Program.keyLits
  simp only [arrK.hu]
  rw [if_pos (by rw [arrK.size]; rfl), show List.range 4 = [0, 1, 2, 3] from rfl, List.mapM_cons, List.mapM_cons, List.mapM_cons, List.mapM_cons, List.mapM_nil]
  simp [arrK.one, Program.keyLits, Try.underlying5, wf8]
theorem keyOf_four (x0 x1 x2 x3 : BitVec 8) : keyOf Try.prog 58 (fourV x0 x1 x2 x3) = some (keyLit x0 x1 x2 x3) := by
  obtain ⟨m, hm⟩ : ∃ m, Try.prog.types.size = m + 1 := ⟨Try.prog.types.size - 1, by have : 0 < Try.prog.types.size := of_decide_eq_true (by kernel_rfl); omega⟩
  have hkt := arrK.keyType ⟨m, hm⟩
  unfold keyOf
  simp only [arrK.hu]
  rw [if_pos (by simp [hkt, Value.formed, arrK.hu, arrK.size]), hm]
  show Option.map _ (Try.prog.keyLits (m + 2) 58 [.int .u8 x0.toNat, .int .u8 x1.toNat, .int .u8 x2.toNat, .int .u8 x3.toNat]) = _
  rw [keyLits_four]
  rfl
theorem keyLit_inj {x0 x1 x2 x3 y0 y1 y2 y3 : BitVec 8} (h : keyLit x0 x1 x2 x3 = keyLit y0 y1 y2 y3) : [x0, x1, x2, x3] = [y0, y1, y2, y3] := by
  have e := keyLits_inj (keyLits_four 0 x0 x1 x2 x3) (keyLits_four 0 y0 y1 y2 y3) (by simpa [keyLit] using h)
  simp only [lits4, List.cons.injEq, Lit.int.injEq, true_and, and_true, Int.natCast_inj] at e
  simp only [List.cons.injEq, and_true]
  exact ⟨BitVec.eq_of_toNat_eq e.1, BitVec.eq_of_toNat_eq e.2.1, BitVec.eq_of_toNat_eq e.2.2.1, BitVec.eq_of_toNat_eq e.2.2.2⟩
abbrev Dm := DataW Unit
/-- The map says of any four bytes where they stood last, ahead of n. -/
def MapOk (D : Dm) (b : By) (n : Nat) : Prop := ∀ x0 x1 x2 x3, Maps.has D (keyLit x0 x1 x2 x3) = decide (0 ≤ lastOcc b [x0, x1, x2, x3] n) ∧ (0 ≤ lastOcc b [x0, x1, x2, x3] n → ∀ z, D.atKey (keyLit x0 x1 x2 x3) z = .lit (.int .i64 (lastOcc b [x0, x1, x2, x3] n)))
theorem MapOk.empty (b : By) : MapOk (.map []) b 0 := fun x0 x1 x2 x3 => ⟨by simp [lastOcc, Maps.has], fun h => by simp [lastOcc] at h⟩
theorem MapOk.keep {D : Dm} {b : By} {n : Nat} (h : MapOk D b n) (hn : b.length < n + 4) : MapOk D b (n + 1) := fun x0 x1 x2 x3 => by
  have e : lastOcc b [x0, x1, x2, x3] (n + 1) = lastOcc b [x0, x1, x2, x3] n := by rw [lastOcc, if_neg (by omega)]
  rw [e]; exact h x0 x1 x2 x3
theorem MapOk.put {D : Dm} {b : By} {n : Nat} (h : MapOk D b n) (hm : Maps.IsMap D) (hn : n + 4 ≤ b.length) {x0 x1 x2 x3 : BitVec 8} (hk : keyAt b n = [x0, x1, x2, x3]) : MapOk (D.put (keyLit x0 x1 x2 x3) (.lit (.int .i64 (n : Int)))) b (n + 1) := fun y0 y1 y2 y3 => by
  by_cases he : keyLit y0 y1 y2 y3 = keyLit x0 x1 x2 x3
  · have e : lastOcc b [y0, y1, y2, y3] (n + 1) = n := by rw [lastOcc, if_pos ⟨hn, by rw [hk, keyLit_inj he]⟩]
    rw [e, he]
    have hkl : WideAt.IsKeyLit (keyLit x0 x1 x2 x3) := by unfold keyLit; trivial
    refine ⟨?_, fun _ z => Maps.atKey_put_same hm hkl _ z⟩
    rw [Maps.has_put_same hm hkl]; simp
  · have e : lastOcc b [y0, y1, y2, y3] (n + 1) = lastOcc b [y0, y1, y2, y3] n := by
      rw [lastOcc, if_neg]
      rintro ⟨_, h'⟩
      rw [hk] at h'
      simp only [List.cons.injEq, and_true] at h'
      obtain ⟨rfl, rfl, rfl, rfl⟩ := h'
      exact he rfl
    rw [e]
    obtain ⟨h1, h2⟩ := h y0 y1 y2 y3
    exact ⟨by rw [Maps.has_put_other he]; exact h1, fun h0 z => by rw [Maps.atKey_put_other he]; exact h2 h0 z⟩
def intsV (l : List Int) : List Value := l.map fun x => Value.int .i64 x
theorem intsV_snoc (l : List Int) (x : Int) : intsV l ++ [.int .i64 x] = intsV (l ++ [x]) := by simp [intsV]
/-- Block g is a finder of b that has come to n: its map is block m. -/
def Fd (w : World) (g m B : Nat) (b : By) (A : Option Addr) (cap n : Nat) (v : Value) (D : Dm) : Prop :=
  w.heap[g]? = some (.cells #[.slice A b.length cap, .map (some m), v, .int .i64 n] 55 (0, 0)) ∧ w.ownsRow B 3 1 v n (intsV (aheadL b n)) ∧ w.ownsMap Try.prog 58 (plainElem Try.prog 3) m n D ∧ MapOk D b n ∧ B ≤ g ∧ B ≤ m
end Go.Proofs.Ytebmnfffmpiceaa
