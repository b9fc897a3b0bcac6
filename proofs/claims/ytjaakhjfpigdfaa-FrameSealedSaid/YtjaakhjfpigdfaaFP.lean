import Derived.Test.YtjaakhjfpigdfaaFA
/-! Frames: their bytes, and how bytes are read as frames; plain laws. -/
namespace Go.Proofs.Ytjaakhjfpigdfaa
open Go.RowKit
set_option linter.unusedVariables false
set_option linter.unusedSimpArgs false
/-- A frame. -/
structure Fr where
  fr : Int
  ep : Int
  me : BitVec 64
  you : BitVec 64
  n : Int
  body : List (BitVec 8)
  all : Int
  more : BitVec 64
def okN (n : Int) : Bool := decide (0 ≤ n) && decide (n ≤ 1073741824)
/-- Which frames may be. -/
def okF (f : Fr) : Bool := ((f.fr == 0) || (f.fr == 1)) && okN f.ep && (f.me.toNat != 0) && okN f.n && okN f.all && decide (f.body.length ≤ 524288) && (decide (0 < f.n) || (f.body.length == 0))
/-- A frame's bytes. -/
def bodyF (f : Fr) : List (BitVec 8) :=
  [70#8, BitVec.ofInt 8 f.fr] ++ (vlist 10 f.ep.toNat ++ (wordBytes f.me 8 1 ++ (wordBytes f.you 8 1 ++ (vlist 10 f.n.toNat ++ (vlist 10 f.all.toNat ++ (wordBytes f.more 8 1 ++ (vlist 10 f.body.length ++ f.body)))))))
def tk (n : Nat) (l : List (BitVec 8)) : Option (List (BitVec 8) × List (BitVec 8)) := if n ≤ l.length then some (l.take n, l.drop n) else none
def vr (l : List (BitVec 8)) : Option (Nat × List (BitVec 8)) := if (vread l 0 0).2.2 = 0 then some ((vread l 0 0).1, l.drop (vread l 0 0).2.1) else none
def nr (l : List (BitVec 8)) : Option (Nat × List (BitVec 8)) := (vr l).bind fun r => if r.1 ≤ 1073741824 then some r else none
def wr8 (l : List (BitVec 8)) : Option (BitVec 64 × List (BitVec 8)) := (tk 8 l).bind fun r => some (BitVec.ofNat 64 (numOf r.1 8 1), r.2)
/-- The frame that bytes are. -/
def parseF (b : List (BitVec 8)) : Option Fr :=
  (tk 1 b).bind fun r0 => (tk 1 r0.2).bind fun r1 => (nr r1.2).bind fun ep => (wr8 ep.2).bind fun me => (wr8 me.2).bind fun you => (nr you.2).bind fun n => (nr n.2).bind fun all => (wr8 all.2).bind fun more => (vr more.2).bind fun len => (tk len.1 len.2).bind fun body =>
    let f : Fr := ⟨((r1.1.getD 0 0).toNat : Int), ep.1, me.1, you.1, n.1, body.1, all.1, more.1⟩
    if okF f = true ∧ bodyF f = b then some f else none
theorem tk_app (a t : List (BitVec 8)) (n : Nat) (h : a.length = n) : tk n (a ++ t) = some (a, t) := by
  unfold tk
  rw [if_pos (by rw [List.length_append]; omega), ← h, List.take_left, List.drop_left]
theorem vr_app (x : Nat) (hx : x < 18446744073709551616) (t : List (BitVec 8)) : vr (vlist 10 x ++ t) = some (x, t) := by
  unfold vr
  rw [varint_back x hx t, if_pos rfl, List.drop_left]
theorem nr_app (x : Nat) (hx : x ≤ 1073741824) (t : List (BitVec 8)) : nr (vlist 10 x ++ t) = some (x, t) := by
  unfold nr
  rw [vr_app x (by omega), Option.bind_some, if_pos hx]
theorem byteAt_bit (x : BitVec 64) (i : Nat) : (byteAt x (i / 8)).getLsbD (i % 8) = x.getLsbD i := by
  unfold byteAt
  rw [BitVec.getLsbD_setWidth, BitVec.getLsbD_ushiftRight, show 8 * (i / 8) + i % 8 = i by omega]
  simp
  omega
theorem wordBytes_inj (x y : BitVec 64) (h : wordBytes x 8 1 = wordBytes y 8 1) : x = y := by
  apply BitVec.eq_of_getLsbD_eq
  intro i hi
  have h8 : 7 - i / 8 < 8 := by omega
  have hj : (wordBytes x 8 1)[7 - i / 8]? = (wordBytes y 8 1)[7 - i / 8]? := by rw [h]
  have hw : which 8 1 (7 - i / 8) = i / 8 := by unfold which; simp; omega
  simp only [wordBytes, List.getElem?_map, List.getElem?_range h8, Option.map_some, hw] at hj
  rw [← byteAt_bit x i, ← byteAt_bit y i, Option.some.inj hj]
theorem numOf_bytes (x : BitVec 64) : BitVec.ofNat 64 (numOf (wordBytes x 8 1) 8 1) = x := by
  obtain ⟨y, hy, _, hn⟩ := numOf_word (wordBytes x 8 1) 8 1 (by rw [length_wordBytes]; omega) (by omega)
  rw [List.take_of_length_le (by rw [length_wordBytes]; omega)] at hy
  rw [← hn, wordBytes_inj x y hy, BitVec.ofNat_toNat]
  simp
theorem wr8_app (x : BitVec 64) (t : List (BitVec 8)) : wr8 (wordBytes x 8 1 ++ t) = some (x, t) := by
  unfold wr8
  rw [tk_app _ t 8 (length_wordBytes x 8 1), Option.bind_some, numOf_bytes]
theorem okN_iff (n : Int) : okN n = true ↔ 0 ≤ n ∧ n ≤ 1073741824 := by unfold okN; simp
theorem okF_iff (f : Fr) : okF f = true ↔ (f.fr = 0 ∨ f.fr = 1) ∧ (0 ≤ f.ep ∧ f.ep ≤ 1073741824) ∧ f.me.toNat ≠ 0 ∧ (0 ≤ f.n ∧ f.n ≤ 1073741824) ∧ (0 ≤ f.all ∧ f.all ≤ 1073741824) ∧ f.body.length ≤ 524288 ∧ (0 < f.n ∨ f.body.length = 0) := by
  unfold okF
  simp only [Bool.and_eq_true, Bool.or_eq_true, okN_iff, beq_iff_eq, bne_iff_ne, decide_eq_true_eq, and_assoc]
/-- What a frame that may be is written as is read as it. -/
theorem parse_body (f : Fr) (h : okF f = true) : parseF (bodyF f) = some f := by
  obtain ⟨h1, h2, h3, h4, h5, h6, h7⟩ := (okF_iff f).1 h
  have hb : bodyF f = [70#8] ++ ([BitVec.ofInt 8 f.fr] ++ (vlist 10 f.ep.toNat ++ (wordBytes f.me 8 1 ++ (wordBytes f.you 8 1 ++ (vlist 10 f.n.toNat ++ (vlist 10 f.all.toNat ++ (wordBytes f.more 8 1 ++ (vlist 10 f.body.length ++ f.body)))))))) := rfl
  unfold parseF
  rw [hb, tk_app _ _ 1 rfl, Option.bind_some, tk_app _ _ 1 rfl, Option.bind_some, nr_app _ (by omega), Option.bind_some, wr8_app, Option.bind_some, wr8_app, Option.bind_some, nr_app _ (by omega), Option.bind_some, nr_app _ (by omega), Option.bind_some, wr8_app, Option.bind_some, vr_app _ (by omega), Option.bind_some]
  have ht : tk f.body.length f.body = some (f.body, []) := by have := tk_app f.body [] f.body.length rfl; rwa [List.append_nil] at this
  simp only [ht, Option.bind_some]
  have e : (⟨((([BitVec.ofInt 8 f.fr] : List (BitVec 8)).getD 0 0).toNat : Int), (f.ep.toNat : Int), f.me, f.you, (f.n.toNat : Int), f.body, (f.all.toNat : Int), f.more⟩ : Fr) = f := by
    obtain ⟨fr, ep, me, you, n, body, all, more⟩ := f
    simp only at h1 h2 h4 h5
    have e1 : (((([BitVec.ofInt 8 fr] : List (BitVec 8)).getD 0 0).toNat : Int)) = fr := by rcases h1 with rfl | rfl <;> rfl
    have e2 : (ep.toNat : Int) = ep := by have := h2.1; omega
    have e3 : (n.toNat : Int) = n := by have := h4.1; omega
    have e4 : (all.toNat : Int) = all := by have := h5.1; omega
    simp only [e1, e2, e3, e4]
  rw [e, ← hb, if_pos ⟨h, rfl⟩]
theorem parse_some (b : List (BitVec 8)) (f : Fr) (h : parseF b = some f) : okF f = true ∧ bodyF f = b := by
  unfold parseF at h
  simp only [Option.bind_eq_some_iff] at h
  obtain ⟨_, _, _, _, _, _, _, _, _, _, _, _, _, _, _, _, _, _, _, _, h⟩ := h
  split at h
  · rename_i hc
    obtain rfl := Option.some.inj h
    exact hc
  · cases h
end Go.Proofs.Ytjaakhjfpigdfaa
