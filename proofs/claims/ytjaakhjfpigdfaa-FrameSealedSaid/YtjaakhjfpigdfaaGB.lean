import Derived.Test.YtjaakhjfpigdfaaFB
import Derived.Test.YtjaakhjfpigdfaaCA
import Derived.Test.YtjaakhjfpigdfaaV6
import Derived.Great.BuildSlice
import Derived.Test.YtjaakhjfpigdfaaF3
import Derived.Test.YtjaakhjfpigdfaaD3
import Derived.Test.YtjaakhjfpigdfaaFC
/-! Frames: numbers of eight bytes. -/
namespace Go.Proofs.Ytjaakhjfpigdfaa
open Go.RowKit
set_option linter.unusedVariables false
set_option linter.unusedSimpArgs false
theorem eight_any (x : BitVec 64) (w : World) : Calls Try.prog 104 #[.int .u64 (x.toNat : Int)] w fun e w' => ∃ A, e = .returned (.slice (some A) 8 8) ∧ RdB w' (some A) (wordBytes x 8 1) ∧ Below w.heap.size w w' := by
  have BY := Lib.hid (bytes_any x 8 64 1 w (Or.inr (Or.inr (Or.inr ⟨rfl, rfl⟩))) (Or.inl rfl))
  have hwl := length_wordBytes x 8 1
  obtain ⟨wb, hwb⟩ : ∃ l, wordBytes x 8 1 = l := ⟨_, rfl⟩
  rw [hwb] at BY hwl ⊢
  have HWL := Lib.hid hwl
  clear hwb hwl
  go_enter Try.func104, Try.ntmps104
  go_wp2_with fail
  refine BY.out.mono ?_
  rintro e w3 ⟨rfl, hw3⟩
  have hE3 : EqN w3 wb (.slice (some ⟨w.heap.size, 0, none⟩) 8 8) := by rw [← hw3]; exact EqN.new w wb _ 5 _ _ rfl 8 8 HWL.out.symm (Nat.le_refl _) (by rw [HWL.out]; decide) rfl
  have b3 : Below w.heap.size w w3 := by rw [← hw3]; exact below_alloc1 _ _
  have HE := Lib.hid hE3
  have HB := Lib.hid b3
  clear hE3 b3 hw3 BY
  go_wp2
  go_ret
  obtain ⟨A, c, h1, _, hr, _⟩ := HE.out
  simp only [Value.slice.injEq] at h1
  obtain ⟨rfl, _, _⟩ := h1
  exact ⟨_, rfl, hr, HB.out⟩
theorem big_succ (x : BitVec 64) (k : Nat) (h : k < 8) : (wordBytes x 8 1).take (k + 1) = (wordBytes x 8 1).take k ++ [byteAt x (7 - k)] := by
  have hl : k < (wordBytes x 8 1).length := by rw [length_wordBytes]; exact h
  rw [List.take_add_one, List.getElem?_eq_getElem hl]
  congr 1
  have : (wordBytes x 8 1)[k] = byteAt x (7 - k) := by
    simp only [wordBytes, List.getElem_map, List.getElem_range]
    congr 1
  rw [this]
  rfl
set_option maxRecDepth 100000 in
set_option maxHeartbeats 4000000 in
theorem big_any (x : BitVec 64) (w : World) : Calls Try.prog 106 #[.int .u64 (x.toNat : Int)] w fun e w' => ∃ A c, e = .returned (.slice (some A) 8 c) ∧ 8 ≤ c ∧ RdB w' (some A) (wordBytes x 8 1) ∧ Below w.heap.size w w' := by
  obtain ⟨i0, hi0, hz0, hz1, hz2⟩ := info_parts info5
  have HPS := Lib.hid (fun j (h : j < 8) => show bytesV ((wordBytes x 8 1).take j) ++ [Value.int .u8 ((byteAt x (7 - j)).toNat : Int)] = bytesV ((wordBytes x 8 1).take (j + 1)) by rw [big_succ x j h]; simp [bytesV])
  have HPA := Lib.hid (show (wordBytes x 8 1).take 8 = wordBytes x 8 1 from List.take_of_length_le (by rw [length_wordBytes]; omega))
  have HWL := Lib.hid (length_wordBytes x 8 1)
  have HB := Lib.hid (fun q => (byte_nat x q).symm)
  have hx64 := x.isLt
  obtain ⟨X, hX⟩ : ∃ X, x.toNat = X := ⟨_, rfl⟩
  rw [hX] at HB hx64 ⊢
  clear hX
  go_enter Try.func106, Try.ntmps106
  go_wp2
  go_loopg [3, 4] 8 (fun gk lv iv wr => ∃ j : Nat, gk = 8 - j ∧ j ≤ 8 ∧ iv = .int .i64 (7 - (j : Int)) ∧ wr.ownsRow w.heap.size 5 1 lv j (bytesV ((wordBytes x 8 1).take j)) ∧ Below w.heap.size w wr)
  case atStart => exact ⟨0, rfl, by omega, rfl, ⟨rfl, .inl ⟨rfl, rfl⟩⟩, Below.refl _ _⟩
  case round =>
    obtain ⟨j, rfl, hj, rfl, hown, hbel⟩ := hrel
    have hsr := hbel.size
    by_cases hlt : j < 8
    · obtain ⟨q, hq⟩ : ∃ q : Nat, q + j = 7 := ⟨7 - j, by omega⟩
      have hiv : (7 : Int) - (j : Int) = (q : Int) := by omega
      have hq7 : q ≤ 7 := by omega
      have h8 : ((8 : Int) * (q : Int)).toNat = 8 * q := by omega
      have hby : (X : Int) / 2 ^ (8 * q) % 256 = ((byteAt x q).toNat : Int) := by
        rw [← HB.out q]
        push_cast
        rfl
      have HPS1 := Lib.hid (HPS.out j hlt)
      rw [show 7 - j = q by omega] at HPS1
      obtain ⟨y, hy⟩ : ∃ y, byteAt x q = y := ⟨_, rfl⟩
      rw [hy] at hby HPS1
      have HO := Lib.hid hown
      have HBL := Lib.hid hbel
      have HQ := Lib.hid hq
      have HJ := Lib.hid hlt
      rw [hiv]
      clear hiv hy hown hbel hq hlt hj
      go_wp2_with (first | (at_builtin; refine wpList_append_own _ rfl (.tmp 9) (.tmp 16) 35 rfl w.heap.size 5 i0 (.int .u8 0) 1 1 Try.underlying35 hi0 hz0 hz1 hz2 rfl (by decide) _ j _ rfl (HO.out.alloc _) ⟨wr.heap.size, 0, none⟩ 1 1 [.int .u8 (y.toNat : Int)] rfl rfl (cell_one_at _ _ _ _ rfl) (oneInt _) (by unfold maxLen; have := HJ.out; omega) (by have := HJ.out; omega) (by simp; omega) ?_; intro v6 w6 hown6 hgrow6 _; rw [HPS1.out] at hown6; have HO6 := Lib.hid hown6; have HB6 := Lib.hid ((HBL.out.alloc hsr _).grown hgrow6 (by simp; omega) (own_base' HO.out)); clear hown6 hgrow6) | fail)
      go_roundg (8 - (j + 1))
      case measure => have := HJ.out; omega
      case rel =>
        refine ⟨j + 1, rfl, HJ.out, ?_, HO6.out, HB6.out⟩
        refine congrArg (Value.int IntKind.i64) ?_
        have := HQ.out
        push_cast
        omega
    · obtain rfl : j = 8 := by omega
      rw [HPA.out] at hown
      obtain ⟨g, cap, hv⟩ := Joins.ownsRow_form hown (by omega)
      subst hv
      have hown2 := hown
      rw [show wr.ownsRow w.heap.size 5 1 (.slice (some ⟨g, 0, none⟩) 8 cap) 8 (bytesV (wordBytes x 8 1)) = wr.ownsRow w.heap.size 5 1 (.slice (some ⟨g, 0, none⟩) 8 cap) (wordBytes x 8 1).length (bytesV (wordBytes x 8 1)) by rw [HWL.out]] at hown2
      have HE := Lib.hid (EqN.own hown2)
      have HBL := Lib.hid hbel
      clear hown hown2 hbel
      go_wp2
      go_ret
      obtain ⟨A, c, h1, hc, hr, _⟩ := HE.out
      simp only [Value.slice.injEq] at h1
      obtain ⟨rfl, _, rfl⟩ := h1
      rw [HWL.out] at hc
      exact ⟨_, _, rfl, hc, hr, HBL.out⟩
end Go.Proofs.Ytjaakhjfpigdfaa
/-! Frames: laws for their bytes' walk. -/
namespace Go.Proofs.Ytjaakhjfpigdfaa
open Go.RowKit
set_option linter.unusedVariables false
set_option linter.unusedSimpArgs false
/-- A row of bytes of one's own. -/
def OwnB (w : World) (B : Nat) (v : Value) (l : By) : Prop := w.ownsRow B 5 1 v l.length (bytesV l)
theorem OwnB.below {w w' : World} {B : Nat} {v : Value} {l : By} (h : OwnB w B v l) (hb : Below w.heap.size w w') : OwnB w' B v l := own_below h hb
theorem OwnB.eqn {w : World} {B : Nat} {v : Value} {l : By} (h : OwnB w B v l) : EqN w l v := EqN.own h
theorem OwnB.app {w : World} {B n : Nat} {v : Value} {l p : By} (hn : n = l.length + p.length) (h : w.ownsRow B 5 1 v n (bytesV l ++ bytesV p)) : OwnB w B v (l ++ p) := by
  unfold OwnB
  rw [bytesV_app, List.length_append, ← hn]
  exact h
theorem wp_append_B {w : World} {o : Oper} {a : Act} {K : Act → World → Prop} {Q : Exit → Act → World → Prop} (s x : Operand) (ho : o.op = .call { callee := .builtin .append, args := #[s, x], argTypes := #[35, 35] })
    (base : Nat) (l p : By) (hown : OwnB w base (a.eval s) l) (hx : EqN w p (a.eval x)) (hmax : l.length + p.length ≤ 140737488355328) (hb : base ≤ w.heap.size)
    (h : ∀ v' w', OwnB w' base v' (l ++ p) → Below base w w' → K (a.put o.dst v') w') : o.wp Try.prog a w K Q := by
  obtain ⟨A, c, e, hc, hr, hn⟩ := hx
  exact wp_append_bytes s x ho base _ l.length _ rfl hown A c p e hr hn hc hmax hb fun v' w' h2 h3 _ => h v' w' (OwnB.app rfl h2) ((Below.refl base w).grown h3 hb (own_base' hown))
theorem wpList_append_B {w : World} {ops : Array Oper} {rest : List Oper} {o : Oper} {a : Act} {Q : Exit → Act → World → Prop} (hgd : o.guard = none) (s x : Operand) (ho : o.op = .call { callee := .builtin .append, args := #[s, x], argTypes := #[35, 35] })
    (base : Nat) (l p : By) (hown : OwnB w base (a.eval s) l) (hx : EqN w p (a.eval x)) (hmax : l.length + p.length ≤ 140737488355328) (hb : base ≤ w.heap.size)
    (h : ∀ v' w', OwnB w' base v' (l ++ p) → Below base w w' → wpList Try.prog ops Q rest (a.put o.dst v') w') : wpList Try.prog ops Q (o :: rest) a w :=
  wpList_plain hgd fun _ hK => wp_append_B s x ho base l p hown hx hmax hb fun v' w' h2 h3 => hK _ _ (h v' w' h2 h3)
theorem varintE (x : Nat) (hx : x < 18446744073709551616) (w : World) : Calls Try.prog 103 #[.int .u64 x] w fun e w' => ∃ v, e = .returned v ∧ EqN w' (vlist 10 x) v ∧ Below w.heap.size w w' :=
  (varint_any x hx w).mono fun e w' ⟨g, c, h1, h2, h3⟩ => ⟨_, h1, EqN.own h2, h3⟩
theorem rvarintE (x : Nat) (hx : x < 18446744073709551616) (w : World) : Calls Try.prog 105 #[.int .u64 x] w fun e w' => ∃ v, e = .returned v ∧ EqN w' (vlist 10 x) v ∧ Below w.heap.size w w' :=
  (rvarint_any x hx w).mono fun e w' ⟨g, c, h1, h2, h3⟩ => ⟨_, h1, EqN.own h2, h3⟩
theorem eightE (x : BitVec 64) (w : World) : Calls Try.prog 104 #[.int .u64 (x.toNat : Int)] w fun e w' => ∃ v, e = .returned v ∧ EqN w' (wordBytes x 8 1) v ∧ Below w.heap.size w w' :=
  (eight_any x w).mono fun e w' ⟨A, h1, h2, h3⟩ => ⟨_, h1, ⟨some A, 8, by rw [length_wordBytes], by rw [length_wordBytes]; omega, h2, fun h => by cases h⟩, h3⟩
theorem bigE (x : BitVec 64) (w : World) : Calls Try.prog 106 #[.int .u64 (x.toNat : Int)] w fun e w' => ∃ v, e = .returned v ∧ EqN w' (wordBytes x 8 1) v ∧ Below w.heap.size w w' :=
  (big_any x w).mono fun e w' ⟨A, c, h1, hc, h2, h3⟩ => ⟨_, h1, ⟨some A, c, by rw [length_wordBytes], by rw [length_wordBytes]; omega, h2, fun h => by cases h⟩, h3⟩
theorem conv3_5 (x : BitVec 8) (w : World) : (convert 3 5 (.int .i64 (x.toNat : Int))).run Try.prog w = .ok (.int .u8 (x.toNat : Int)) w := by
  have := x.isLt
  simp [go_sem, IntKind.wrap_u8]
  omega
theorem conv3_33 (n : Nat) (h : n ≤ 1073741824) (w : World) : (convert 3 33 (.int .i64 (n : Int))).run Try.prog w = .ok (.int .u64 (n : Int)) w := by
  simp [go_sem, IntKind.wrap_u64]
  omega
theorem load3 (a : Addr) (x : Int) (w : World) (h : w.cell? a = some (.int .i64 x)) : (do pure (Next.value (← Instr.loadAt 3 (.pointer (some a)))) : Sem Next).run Try.prog w = .ok (.value (.int .i64 x)) w := by
  simp [go_sem, h]
theorem load33 (a : Addr) (x : Int) (w : World) (h : w.cell? a = some (.int .u64 x)) : (do pure (Next.value (← Instr.loadAt 33 (.pointer (some a)))) : Sem Next).run Try.prog w = .ok (.value (.int .u64 x)) w := by
  simp [go_sem, h]
theorem load35 (a : Addr) (A : Option Addr) (n c : Nat) (w : World) (h : w.cell? a = some (.slice A n c)) : (do pure (Next.value (← Instr.loadAt 35 (.pointer (some a)))) : Sem Next).run Try.prog w = .ok (.value (.slice A n c)) w := by
  simp [go_sem, h]
set_option maxRecDepth 100000 in
theorem field83 (g k : Nat) (h : k < 8) (w : World) : (Instr.fieldAt 83 (.pointer (some ⟨g, 0, none⟩)) k).run Try.prog w = .ok (.pointer (some ⟨g, k, none⟩)) w := by
  have hc : k = 0 ∨ k = 1 ∨ k = 2 ∨ k = 3 ∨ k = 4 ∨ k = 5 ∨ k = 6 ∨ k = 7 := by omega
  rcases hc with rfl | rfl | rfl | rfl | rfl | rfl | rfl | rfl <;> simp [go_sem, Instr.fieldAt]
theorem vlist_len : ∀ (f y : Nat), (vlist f y).length ≤ f
  | 0, _ => by simp [vlist]
  | f + 1, y => by
    have := vlist_len f (y / 128)
    unfold vlist
    split
    · simp
    · simp; omega

theorem vlist_len10 (x : Nat) : (vlist 10 x).length ≤ 10 := vlist_len 10 x
theorem own_two (w : World) (B : Nat) (x : BitVec 8) (h : B ≤ w.heap.size) : OwnB (w.alloc (.cells #[.int .u8 70, .int .u8 (x.toNat : Int)] 5)) B (.slice (some ⟨w.heap.size, 0, none⟩) 2 2) [70#8, x] := ⟨rfl, .inr ⟨_, 2, _, rfl, h, heap_new _ _ _ rfl, Nat.le_refl _, by decide, rfl, rfl⟩⟩
set_option maxRecDepth 100000 in
theorem run_len35F (A : Option Addr) (n c : Nat) (ty : TypeId) (w : World) : (Builtin.len_ #[35] ty #[.slice A n c]).run Try.prog w = .ok (.int .i64 (n : Int)) w := by
  simp [go_sem, Try.underlying35]
theorem wp_len35F {w : World} {o : Oper} {a : Act} {K : Act → World → Prop} {Q : Exit → Act → World → Prop} (x : Operand) (ho : o.op = .call { callee := .builtin .len, args := #[x], argTypes := #[35] }) (A : Option Addr) (n c : Nat) (hx : a.eval x = .slice A n c) (h : K (a.put o.dst (.int .i64 (n : Int))) w) : o.wp Try.prog a w K Q := by
  unfold Oper.wp execOp
  simp only [ho, resolve, invoke, builtin, Sem.run_bind, Sem.run_pure, Result.andThen_ok, List.map_toArray, List.map_cons, List.map_nil, hx, run_len35F]
  exact h
theorem own_weak {w : World} {B B' : Nat} {v : Value} {l : By} (hb : B' ≤ B) (h : OwnB w B v l) : OwnB w B' v l := by
  refine ⟨h.1, ?_⟩
  rcases h.2 with hn | ⟨g, cap, cur, e, hb1, rest⟩
  · exact .inl hn
  · exact .inr ⟨g, cap, cur, e, Nat.le_trans hb hb1, rest⟩
end Go.Proofs.Ytjaakhjfpigdfaa
/-! A frame's bytes. -/
namespace Go.Proofs.Ytjaakhjfpigdfaa
open Go.RowKit
set_option linter.unusedVariables false
set_option linter.unusedSimpArgs false
def pdFI1 (b0 : Value) (L P1 P2 : By) (B g0 : Nat) (x0 : BitVec 8) (E n al bl c : Nat) (me you more : BitVec 64) (A : Option Addr) : Nat → Value → World → Prop
  | 0 => fun v w => v = .pointer (some ⟨g0, 0, none⟩)
  | 1 => fun v w => v = .int .i64 (x0.toNat : Int)
  | 2 => fun v w => v = .int .u8 (x0.toNat : Int)
  | 3 => fun v w => OwnB w B v [70#8, x0]
  | 4 => fun v w => v = .pointer (some ⟨g0, 1, none⟩)
  | 5 => fun v w => v = .int .i64 (E : Int)
  | 6 => fun v w => v = .int .u64 (E : Int)
  | 7 => fun v w => EqN w P1 v
  | 8 => fun v w => OwnB w B v ([70#8, x0] ++ P1)
  | _ => fun _ _ => True
theorem pdFI1_mono (b0 : Value) (L P1 P2 : By) (B g0 : Nat) (x0 : BitVec 8) (E n al bl c : Nat) (me you more : BitVec 64) (A : Option Addr) : ∀ q0 v w w', pdFI1 b0 L P1 P2 B g0 x0 E n al bl c me you more A q0 v w → Below w.heap.size w w' → pdFI1 b0 L P1 P2 B g0 x0 E n al bl c me you more A q0 v w'
  | 0, _, _, _, h, _ => h
  | 1, _, _, _, h, _ => h
  | 2, _, _, _, h, _ => h
  | 3, _, _, _, h, hb => OwnB.below h hb
  | 4, _, _, _, h, _ => h
  | 5, _, _, _, h, _ => h
  | 6, _, _, _, h, _ => h
  | 7, _, _, _, h, hb => EqN.below h hb
  | 8, _, _, _, h, hb => OwnB.below h hb
  | _ + 9, _, _, _, _, _ => trivial
def pdFI2 (b0 : Value) (L P1 P2 : By) (B g0 : Nat) (x0 : BitVec 8) (E n al bl c : Nat) (me you more : BitVec 64) (A : Option Addr) : Nat → Value → World → Prop
  | 0 => fun v w => v = b0 ∧ OwnB w B b0 L
  | 1 => fun v w => v = .pointer (some ⟨g0, 2, none⟩)
  | 2 => fun v w => v = .int .u64 (me.toNat : Int)
  | 3 => fun v w => EqN w P1 v
  | 4 => fun v w => OwnB w B v (L ++ P1)
  | 5 => fun v w => v = .pointer (some ⟨g0, 3, none⟩)
  | 6 => fun v w => v = .int .u64 (you.toNat : Int)
  | 7 => fun v w => EqN w P2 v
  | 8 => fun v w => OwnB w B v ((L ++ P1) ++ P2)
  | _ => fun _ _ => True
theorem pdFI2_mono (b0 : Value) (L P1 P2 : By) (B g0 : Nat) (x0 : BitVec 8) (E n al bl c : Nat) (me you more : BitVec 64) (A : Option Addr) : ∀ q0 v w w', pdFI2 b0 L P1 P2 B g0 x0 E n al bl c me you more A q0 v w → Below w.heap.size w w' → pdFI2 b0 L P1 P2 B g0 x0 E n al bl c me you more A q0 v w'
  | 0, _, _, _, h, hb => ⟨h.1, h.2.below hb⟩
  | 1, _, _, _, h, _ => h
  | 2, _, _, _, h, _ => h
  | 3, _, _, _, h, hb => EqN.below h hb
  | 4, _, _, _, h, hb => OwnB.below h hb
  | 5, _, _, _, h, _ => h
  | 6, _, _, _, h, _ => h
  | 7, _, _, _, h, hb => EqN.below h hb
  | 8, _, _, _, h, hb => OwnB.below h hb
  | _ + 9, _, _, _, _, _ => trivial
def pdFI3 (b0 : Value) (L P1 P2 : By) (B g0 : Nat) (x0 : BitVec 8) (E n al bl c : Nat) (me you more : BitVec 64) (A : Option Addr) : Nat → Value → World → Prop
  | 0 => fun v w => v = b0 ∧ OwnB w B b0 L
  | 1 => fun v w => v = .pointer (some ⟨g0, 4, none⟩)
  | 2 => fun v w => v = .int .i64 (n : Int)
  | 3 => fun v w => v = .int .u64 (n : Int)
  | 4 => fun v w => EqN w P1 v
  | 5 => fun v w => OwnB w B v (L ++ P1)
  | 6 => fun v w => v = .pointer (some ⟨g0, 6, none⟩)
  | 7 => fun v w => v = .int .i64 (al : Int)
  | 8 => fun v w => v = .int .u64 (al : Int)
  | 9 => fun v w => EqN w P2 v
  | 10 => fun v w => OwnB w B v ((L ++ P1) ++ P2)
  | _ => fun _ _ => True
theorem pdFI3_mono (b0 : Value) (L P1 P2 : By) (B g0 : Nat) (x0 : BitVec 8) (E n al bl c : Nat) (me you more : BitVec 64) (A : Option Addr) : ∀ q0 v w w', pdFI3 b0 L P1 P2 B g0 x0 E n al bl c me you more A q0 v w → Below w.heap.size w w' → pdFI3 b0 L P1 P2 B g0 x0 E n al bl c me you more A q0 v w'
  | 0, _, _, _, h, hb => ⟨h.1, h.2.below hb⟩
  | 1, _, _, _, h, _ => h
  | 2, _, _, _, h, _ => h
  | 3, _, _, _, h, _ => h
  | 4, _, _, _, h, hb => EqN.below h hb
  | 5, _, _, _, h, hb => OwnB.below h hb
  | 6, _, _, _, h, _ => h
  | 7, _, _, _, h, _ => h
  | 8, _, _, _, h, _ => h
  | 9, _, _, _, h, hb => EqN.below h hb
  | 10, _, _, _, h, hb => OwnB.below h hb
  | _ + 11, _, _, _, _, _ => trivial
def pdFI4 (b0 : Value) (L P1 P2 : By) (B g0 : Nat) (x0 : BitVec 8) (E n al bl c : Nat) (me you more : BitVec 64) (A : Option Addr) : Nat → Value → World → Prop
  | 0 => fun v w => v = b0 ∧ OwnB w B b0 L
  | 1 => fun v w => v = .pointer (some ⟨g0, 7, none⟩)
  | 2 => fun v w => v = .int .u64 (more.toNat : Int)
  | 3 => fun v w => EqN w P1 v
  | 4 => fun v w => OwnB w B v (L ++ P1)
  | 5 => fun v w => v = .pointer (some ⟨g0, 5, none⟩)
  | 6 => fun v w => v = .slice A bl c
  | 7 => fun v w => v = .int .i64 (bl : Int)
  | 8 => fun v w => v = .int .u64 (bl : Int)
  | 9 => fun v w => EqN w P2 v
  | 10 => fun v w => OwnB w B v ((L ++ P1) ++ P2)
  | _ => fun _ _ => True
theorem pdFI4_mono (b0 : Value) (L P1 P2 : By) (B g0 : Nat) (x0 : BitVec 8) (E n al bl c : Nat) (me you more : BitVec 64) (A : Option Addr) : ∀ q0 v w w', pdFI4 b0 L P1 P2 B g0 x0 E n al bl c me you more A q0 v w → Below w.heap.size w w' → pdFI4 b0 L P1 P2 B g0 x0 E n al bl c me you more A q0 v w'
  | 0, _, _, _, h, hb => ⟨h.1, h.2.below hb⟩
  | 1, _, _, _, h, _ => h
  | 2, _, _, _, h, _ => h
  | 3, _, _, _, h, hb => EqN.below h hb
  | 4, _, _, _, h, hb => OwnB.below h hb
  | 5, _, _, _, h, _ => h
  | 6, _, _, _, h, _ => h
  | 7, _, _, _, h, _ => h
  | 8, _, _, _, h, _ => h
  | 9, _, _, _, h, hb => EqN.below h hb
  | 10, _, _, _, h, hb => OwnB.below h hb
  | _ + 11, _, _, _, _, _ => trivial
set_option maxRecDepth 100000 in
set_option maxHeartbeats 8000000 in
theorem body_any (f : Fr) (u : Value) (w : World) (hu : EqN w f.body u) (hok : okF f = true) : Calls Try.prog 90 #[frV f u] w fun e w' => ∃ v, e = .returned v ∧ OwnB w' w.heap.size v (bodyF f) ∧ Below w.heap.size w w' := by
  obtain ⟨h1, h2, h3, h4, h5, h6, h7⟩ := (okF_iff f).1 hok
  obtain ⟨A, c, rfl, hc, hr, hn⟩ := hu
  obtain ⟨fr, ep, me, you, nn, body, all, more⟩ := f
  simp only at h1 h2 h3 h4 h5 h6 h7 hc hr hn
  obtain ⟨E, rfl⟩ : ∃ E : Nat, ep = (E : Int) := ⟨ep.toNat, by omega⟩
  obtain ⟨n, rfl⟩ : ∃ E : Nat, nn = (E : Int) := ⟨nn.toNat, by omega⟩
  obtain ⟨al, rfl⟩ : ∃ E : Nat, all = (E : Int) := ⟨all.toNat, by omega⟩
  obtain ⟨x0, hx0, rfl⟩ : ∃ x0 : BitVec 8, BitVec.ofInt 8 fr = x0 ∧ fr = (x0.toNat : Int) := ⟨BitVec.ofInt 8 fr, rfl, by rcases h1 with rfl | rfl <;> rfl⟩
  have hEb : EqN w body (.slice A body.length c) := ⟨A, c, rfl, hc, hr, hn⟩
  have hv1 := vlist_len10 E
  have hv2 := vlist_len10 n
  have hv3 := vlist_len10 al
  have hv4 := vlist_len10 body.length
  unfold bodyF frV
  simp only [hx0, Int.toNat_natCast]
  obtain ⟨bl, hbl⟩ : ∃ b, body.length = b := ⟨_, rfl⟩
  rw [hbl] at hEb hv4 h6 ⊢
  have HEL := Lib.hid (show E ≤ 1073741824 by omega)
  have HNL := Lib.hid (show n ≤ 1073741824 by omega)
  have HAL := Lib.hid (show al ≤ 1073741824 by omega)
  have HBL := Lib.hid (show bl ≤ 1073741824 by omega)
  have HB6 := Lib.hid (show body.length ≤ 524288 by omega)
  have CV1 := Lib.hid (varintE E (by omega))
  have CV2 := Lib.hid (varintE n (by omega))
  have CV3 := Lib.hid (varintE al (by omega))
  have CV4 := Lib.hid (varintE bl (by omega))
  have CE1 := Lib.hid (eightE me)
  have CE2 := Lib.hid (eightE you)
  have CE3 := Lib.hid (eightE more)
  have hw1 := length_wordBytes me 8 1
  have hw2 := length_wordBytes you 8 1
  have hw3 := length_wordBytes more 8 1
  obtain ⟨V1, hV1⟩ : ∃ V, vlist 10 E = V := ⟨_, rfl⟩
  obtain ⟨V2, hV2⟩ : ∃ V, vlist 10 n = V := ⟨_, rfl⟩
  obtain ⟨V3, hV3⟩ : ∃ V, vlist 10 al = V := ⟨_, rfl⟩
  obtain ⟨V4, hV4⟩ : ∃ V, vlist 10 bl = V := ⟨_, rfl⟩
  obtain ⟨E1, hE1⟩ : ∃ V, wordBytes me 8 1 = V := ⟨_, rfl⟩
  obtain ⟨E2, hE2⟩ : ∃ V, wordBytes you 8 1 = V := ⟨_, rfl⟩
  obtain ⟨E3, hE3⟩ : ∃ V, wordBytes more 8 1 = V := ⟨_, rfl⟩
  rw [hV1] at CV1 hv1 ⊢
  rw [hV2] at CV2 hv2 ⊢
  rw [hV3] at CV3 hv3 ⊢
  rw [hV4] at CV4 hv4 ⊢
  rw [hE1] at CE1 hw1 ⊢
  rw [hE2] at CE2 hw2 ⊢
  rw [hE3] at CE3 hw3 ⊢
  obtain ⟨F, hF⟩ : ∃ F, [70#8, x0] ++ (V1 ++ (E1 ++ (E2 ++ (V2 ++ (V3 ++ (E3 ++ (V4 ++ body))))))) = F := ⟨_, rfl⟩
  have HF := Lib.hid (show (((((((([70#8, x0] ++ V1) ++ E1) ++ E2) ++ V2) ++ V3) ++ E3) ++ V4) ++ body) = F by rw [← hF]; simp only [List.append_assoc])
  rw [hF]
  have L1 := Lib.hid hv1
  have L2 := Lib.hid hw1
  have L3 := Lib.hid hw2
  have L4 := Lib.hid hv2
  have L5 := Lib.hid hv3
  have L6 := Lib.hid hw3
  have L7 := Lib.hid hv4
  have HEB := Lib.hid hEb
  obtain ⟨i5, hi5, hz5, hs5, hb5⟩ := info_parts info5
  have HI5 := Lib.hid hi5
  have HZ5 := Lib.hid hz5
  have HS5 := Lib.hid hs5
  have hfi : Instr.fill (fun i => some (i * 1, 1)) ((Array.range (2 * 1)).map ((Value.int .u8 0).cells[· % (Value.int .u8 0).cells.size]!)) [(0, .int .u8 70), (1, .int .u8 (x0.toNat : Int))] = some #[.int .u8 70, .int .u8 (x0.toNat : Int)] := by
    generalize (x0.toNat : Int) = z
    kernel_rfl
  clear h1 h2 h3 h4 h5 h6 h7 hc hr hn hok hx0 hv1 hv2 hv3 hv4 hw1 hw2 hw3 hV1 hV2 hV3 hV4 hE1 hE2 hE3 hF hbl hEb hi5 hz5 hs5 hb5
  have hbox := heap_new w (.cells #[.int .i64 (x0.toNat : Int), .int .i64 (E : Int), .int .u64 (me.toNat : Int), .int .u64 (you.toNat : Int), .int .i64 (n : Int), .slice A bl c, .int .i64 (al : Int), .int .u64 (more.toNat : Int)] 83) w.heap.size rfl
  have b1 := below_alloc1 w (.cells #[.int .i64 (x0.toNat : Int), .int .i64 (E : Int), .int .u64 (me.toNat : Int), .int .u64 (you.toNat : Int), .int .i64 (n : Int), .slice A bl c, .int .i64 (al : Int), .int .u64 (more.toNat : Int)] 83)
  have hs1 : (w.alloc (.cells #[.int .i64 (x0.toNat : Int), .int .i64 (E : Int), .int .u64 (me.toNat : Int), .int .u64 (you.toNat : Int), .int .i64 (n : Int), .slice A bl c, .int .i64 (al : Int), .int .u64 (more.toNat : Int)] 83)).heap.size = w.heap.size + 1 := size_alloc _ _
  go_enter Try.func90, Try.ntmps90
  go_upto_region 1 with (fail)
  obtain ⟨W1, hW1⟩ : ∃ W, w.alloc (.cells #[.int .i64 (x0.toNat : Int), .int .i64 (E : Int), .int .u64 (me.toNat : Int), .int .u64 (you.toNat : Int), .int .i64 (n : Int), .slice A bl c, .int .i64 (al : Int), .int .u64 (more.toNat : Int)] 83) = W := ⟨_, rfl⟩
  rw [hW1] at hbox b1 hs1
  rw [hW1]
  obtain ⟨g0, hg0⟩ : ∃ g, w.heap.size = g := ⟨_, rfl⟩
  rw [hg0] at hbox
  have HBS := Lib.hid (show g0 = w.heap.size from hg0.symm)
  have HW := Lib.hid b1
  have HS1 := Lib.hid hs1
  have HG := Lib.hid (show g0 < W1.heap.size by omega)
  have HFI := Lib.hid hfi
  have HBOX1 := Lib.hid hbox
  have HBW1 := Lib.hid (Nat.le_refl W1.heap.size)
  rw [hg0]
  clear hW1 hbox b1 hs1 hg0 hfi
  refine wp_region_use (w0 := _) 9 [some 4, some 5, some 6, some 7, some 8, some 9, some 10, some 11, some 12] (by kernel_rfl) (by kernel_rfl) (by kernel_rfl) (by kernel_rfl) (of_decide_eq_true (by kernel_rfl)) (by kernel_rfl) (pdFI1 (.bool true) V1 V1 V1 W1.heap.size g0 x0 E n al bl c me you more A) (fun i k => i == 8 && (k == 3 || k == 7)) (by kernel_rfl) ?_ ?_
  · intro ix hix o w1 b ho hbel hv hstood hsize K hK0
    have hK : ∀ u w', pdFI1 (.bool true) V1 V1 V1 W1.heap.size g0 x0 E n al bl c me you more A ix u w' → Below w1.heap.size w1 w' → K (b.put o.dst u) w' := fun u w' h hb => hK0 u w' h (fun k v _ _ _ h2 => pdFI1_mono (.bool true) V1 V1 V1 W1.heap.size g0 x0 E n al bl c me you more A k v _ _ h2 hb) (hb.mono hbel.size)
    have hc : ix = 0 ∨ ix = 1 ∨ ix = 2 ∨ ix = 3 ∨ ix = 4 ∨ ix = 5 ∨ ix = 6 ∨ ix = 7 ∨ ix = 8 := by omega
    rcases hc with rfl | rfl | rfl | rfl | rfl | rfl | rfl | rfl | rfl
    · obtain rfl : (⟨some 4, .fieldAddr 83 (Operand.tmp 1) 0, _, _, _, _⟩ : Oper) = o := Option.some.inj ho
      refine ask_plain rfl ?_
      have e : b.eval (.tmp 1) = .pointer (some ⟨g0, 0, none⟩) := (hstood 1 (by kernel_rfl)).trans rfl
      exact wp_val (.pointer (some ⟨g0, 0, none⟩)) (by simp only [execOp, e, Sem.run_bind, field83 g0 0 (by decide), Result.andThen]; rfl) (hK _ _ rfl (Below.refl _ _))
    · obtain rfl : (⟨some 5, .load 3 (Operand.tmp 4), _, _, _, _⟩ : Oper) = o := Option.some.inj ho
      refine ask_plain rfl ?_
      have e : b.eval (.tmp 4) = .pointer (some ⟨g0, 0, none⟩) := hv 0 4 (by kernel_rfl) (by kernel_rfl) (of_decide_eq_true (by kernel_rfl))
      have hq : w1.cell? ⟨g0, 0, none⟩ = some (.int .i64 (x0.toNat : Int)) := by rw [Joins.cell_of_block ((hbel.block _ HG.out).trans HBOX1.out)]; rfl
      exact wp_val (.int .i64 (x0.toNat : Int)) (by simp only [execOp, e]; exact load3 _ _ _ hq) (hK _ _ rfl (Below.refl _ _))
    · obtain rfl : (⟨some 6, .convert 3 5 (Operand.tmp 5), _, _, _, _⟩ : Oper) = o := Option.some.inj ho
      refine ask_plain rfl ?_
      have e : b.eval (.tmp 5) = .int .i64 (x0.toNat : Int) := hv 1 5 (by kernel_rfl) (by kernel_rfl) (of_decide_eq_true (by kernel_rfl))
      exact wp_val (.int .u8 (x0.toNat : Int)) (by simp only [execOp, e, Sem.run_bind, conv3_5, Result.andThen]; rfl) (hK _ _ rfl (Below.refl _ _))
    · obtain rfl : (⟨some 7, .buildSlice 35 2 #[(0, (Operand.const (Value.int IntKind.u8 70))), (1, (Operand.tmp 6))], _, _, _, _⟩ : Oper) = o := Option.some.inj ho
      refine ask_plain rfl ?_
      have e2 : b.eval (.tmp 6) = .int .u8 (x0.toNat : Int) := hv 2 6 (by kernel_rfl) (by kernel_rfl) (of_decide_eq_true (by kernel_rfl))
      refine wp_buildSlice 35 5 2 _ rfl #[.int .u8 70, .int .u8 (x0.toNat : Int)] i5 (.int .u8 0) Try.underlying35 HI5.out HZ5.out (by rw [HS5.out]; decide) (by rw [HS5.out]; decide) (by rw [HS5.out]; simp only [List.map_toArray, List.map_cons, List.map_nil, e2]; exact HFI.out) (hK _ _ (own_two w1 W1.heap.size x0 (Nat.le_trans HBW1.out hbel.size)) (below_alloc1 _ _))
    · obtain rfl : (⟨some 8, .fieldAddr 83 (Operand.tmp 1) 1, _, _, _, _⟩ : Oper) = o := Option.some.inj ho
      refine ask_plain rfl ?_
      have e : b.eval (.tmp 1) = .pointer (some ⟨g0, 0, none⟩) := (hstood 1 (by kernel_rfl)).trans rfl
      exact wp_val (.pointer (some ⟨g0, 1, none⟩)) (by simp only [execOp, e, Sem.run_bind, field83 g0 1 (by decide), Result.andThen]; rfl) (hK _ _ rfl (Below.refl _ _))
    · obtain rfl : (⟨some 9, .load 3 (Operand.tmp 8), _, _, _, _⟩ : Oper) = o := Option.some.inj ho
      refine ask_plain rfl ?_
      have e : b.eval (.tmp 8) = .pointer (some ⟨g0, 1, none⟩) := hv 4 8 (by kernel_rfl) (by kernel_rfl) (of_decide_eq_true (by kernel_rfl))
      have hq : w1.cell? ⟨g0, 1, none⟩ = some (.int .i64 (E : Int)) := by rw [Joins.cell_of_block ((hbel.block _ HG.out).trans HBOX1.out)]; rfl
      exact wp_val (.int .i64 (E : Int)) (by simp only [execOp, e]; exact load3 _ _ _ hq) (hK _ _ rfl (Below.refl _ _))
    · obtain rfl : (⟨some 10, .convert 3 33 (Operand.tmp 9), _, _, _, _⟩ : Oper) = o := Option.some.inj ho
      refine ask_plain rfl ?_
      have e : b.eval (.tmp 9) = .int .i64 (E : Int) := hv 5 9 (by kernel_rfl) (by kernel_rfl) (of_decide_eq_true (by kernel_rfl))
      exact wp_val (.int .u64 (E : Int)) (by simp only [execOp, e, Sem.run_bind, conv3_33 E HEL.out, Result.andThen]; rfl) (hK _ _ rfl (Below.refl _ _))
    · obtain rfl : (⟨some 11, .call { callee := (Callee.value (Operand.func 103)), args := #[(Operand.tmp 10)], argTypes := #[33] }, _, _, _, _⟩ : Oper) = o := Option.some.inj ho
      refine ask_plain rfl ?_
      have e1 : b.eval (.tmp 10) = .int .u64 (E : Int) := hv 6 10 (by kernel_rfl) (by kernel_rfl) (of_decide_eq_true (by kernel_rfl))
      refine wp_call_fn 103 #[.tmp 10] #[33] rfl Try.f103 _ Try.func103 (by kernel_rfl) rfl #[.int .u64 (E : Int)] (by simp [e1]) ((CV1.out w1).mono ?_)
      rintro e w2 ⟨v2, rfl, hE2, hb2⟩
      exact ⟨_, rfl, hK _ _ hE2 hb2⟩
    · obtain rfl : (⟨some 12, .call { callee := (Callee.builtin Builtin.append), args := #[(Operand.tmp 7), (Operand.tmp 11)], argTypes := #[35, 35] }, _, _, _, _⟩ : Oper) = o := Option.some.inj ho
      refine ask_plain rfl ?_
      have hown : OwnB w1 W1.heap.size (b.eval (.tmp 7)) [70#8, x0] := hv 3 7 (by kernel_rfl) (by kernel_rfl) (of_decide_eq_true (by kernel_rfl))
      have hsrc : EqN w1 V1 (b.eval (.tmp 11)) := hv 7 11 (by kernel_rfl) (by kernel_rfl) (of_decide_eq_true (by kernel_rfl))
      refine wp_append_B (.tmp 7) (.tmp 11) rfl W1.heap.size [70#8, x0] V1 hown hsrc (by have := L1.out; simp; omega) (Nat.le_trans HBW1.out hbel.size) ?_
      intro v' w' hown' hb'
      refine hK0 _ _ hown' (fun k v hk hnd hgo h => ?_) hb'
      match k, h with
      | 0, h => exact h
      | 1, h => exact h
      | 2, h => exact h
      | 3, h => cases hgo
      | 4, h => exact h
      | 5, h => exact h
      | 6, h => exact h
      | 7, h => cases hgo
      | 8, h => exact absurd rfl hk
      | _ + 9, _ => trivial
  · intro vs wa1 hp hbb
    have ho : OwnB wa1 W1.heap.size (vs 8) (([70#8, x0] ++ V1)) := hp 8 (by decide) (by decide)
    change wpList _ _ _ [_] _ _
    simp only [putD, Act.put, List.setIfInBounds_toArray, List.set_cons_zero, List.set_cons_succ]
    obtain ⟨r1, hr1⟩ : ∃ r, vs 8 = r := ⟨_, rfl⟩
    rw [hr1] at ho ⊢
    generalize vs 0 = y1_0, vs 1 = y1_1, vs 2 = y1_2, vs 3 = y1_3, vs 4 = y1_4, vs 5 = y1_5, vs 6 = y1_6, vs 7 = y1_7
    obtain ⟨Q1, hQ1⟩ : ∃ Q, (([70#8, x0] ++ V1)) = Q := ⟨_, rfl⟩
    rw [hQ1] at ho
    have HO1 := Lib.hid ho
    have HQ1 := Lib.hid hQ1
    have HQL1 := Lib.hid (show Q1.length ≤ 100 by rw [← hQ1, List.length_append]; have := L1.out; simp; omega)
    have HWA1 := Lib.hid hbb
    have HBW2 := Lib.hid (show W1.heap.size ≤ wa1.heap.size from HWA1.out.size)
    have HBOX2 := Lib.hid ((HWA1.out.block _ HG.out).trans HBOX1.out)
    clear ho hQ1 hp hbb hr1
    go_upto_region 2 with (fail)
    refine wp_region_came (w0 := _) 9 [some 13, some 14, some 15, some 16, some 17, some 18, some 19, some 20, some 21] (by kernel_rfl) (by kernel_rfl) (by kernel_rfl) (by kernel_rfl) (of_decide_eq_true (by kernel_rfl)) (by kernel_rfl) (fun Lc w' => (Lc 4 = false → Below wa1.heap.size wa1 w') ∧ Below W1.heap.size wa1 w' ∧ (Lc 4 = true → Lc 0 = true)) ⟨fun _ => (Below.refl _ _).drew, (Below.refl _ _).drew, fun h => by cases h⟩ (pdFI2 r1 Q1 E1 E2 W1.heap.size g0 x0 E n al bl c me you more A) (fun i k => i == 4 && (k == 0 || k == 3) || i == 8 && (k == 0 || k == 3 || k == 4 || k == 7)) (by kernel_rfl) ?_ ?_
    · intro ix hix o w1 b Lc ho hL hneed hbel hv hstood hsize K hK0
      have hK1 : ix ≠ 4 → ∀ u w', pdFI2 r1 Q1 E1 E2 W1.heap.size g0 x0 E n al bl c me you more A ix u w' → Below w1.heap.size w1 w' → K (b.put o.dst u) w' := fun hx u w' h hb => hK0 u w' h (fun k v _ _ _ h2 => pdFI2_mono r1 Q1 E1 E2 W1.heap.size g0 x0 E n al bl c me you more A k v _ _ h2 hb) ⟨fun h1 => by rw [upd_other Lc true (Ne.symm hx)] at h1; exact (hbel.1 h1).trans (hb.mono (hbel.1 h1).size), hbel.2.1.trans (hb.mono (Nat.le_trans HBW2.out hbel.2.1.size)), fun h1 => by rw [upd_other Lc true (Ne.symm hx)] at h1; exact upd_keep (hbel.2.2 h1)⟩
      have hc : ix = 0 ∨ ix = 1 ∨ ix = 2 ∨ ix = 3 ∨ ix = 4 ∨ ix = 5 ∨ ix = 6 ∨ ix = 7 ∨ ix = 8 := by omega
      rcases hc with rfl | rfl | rfl | rfl | rfl | rfl | rfl | rfl | rfl
      · obtain rfl : (⟨some 13, .move (Operand.tmp 3), _, _, _, _⟩ : Oper) = o := Option.some.inj ho
        have hK := hK1 (by decide)
        refine ask_plain rfl ?_
        have h1 : Lc 4 = false := by
                cases hq : Lc 4 with
                | false => rfl
                | true => have := hbel.2.2 hq; rw [hL] at this; cases this
        have e : b.eval (.tmp 3) = r1 := (hstood 3 (by kernel_rfl)).trans rfl
        exact wp_val _ rfl (hK _ _ ⟨e, HO1.out.below (hbel.1 h1)⟩ (Below.refl _ _))
      · obtain rfl : (⟨some 14, .fieldAddr 83 (Operand.tmp 1) 2, _, _, _, _⟩ : Oper) = o := Option.some.inj ho
        have hK := hK1 (by decide)
        refine ask_plain rfl ?_
        have e : b.eval (.tmp 1) = .pointer (some ⟨g0, 0, none⟩) := (hstood 1 (by kernel_rfl)).trans rfl
        exact wp_val (.pointer (some ⟨g0, 2, none⟩)) (by simp only [execOp, e, Sem.run_bind, field83 g0 2 (by decide), Result.andThen]; rfl) (hK _ _ rfl (Below.refl _ _))
      · obtain rfl : (⟨some 15, .load 33 (Operand.tmp 14), _, _, _, _⟩ : Oper) = o := Option.some.inj ho
        have hK := hK1 (by decide)
        refine ask_plain rfl ?_
        have e : b.eval (.tmp 14) = .pointer (some ⟨g0, 2, none⟩) := hv 1 14 (by kernel_rfl) (by kernel_rfl) (of_decide_eq_true (by kernel_rfl))
        have hq : w1.cell? ⟨g0, 2, none⟩ = some (.int .u64 (me.toNat : Int)) := by rw [Joins.cell_of_block ((hbel.2.1.block _ HG.out).trans HBOX2.out)]; rfl
        exact wp_val (.int .u64 (me.toNat : Int)) (by simp only [execOp, e]; exact load33 _ _ _ hq) (hK _ _ rfl (Below.refl _ _))
      · obtain rfl : (⟨some 16, .call { callee := (Callee.value (Operand.func 104)), args := #[(Operand.tmp 15)], argTypes := #[33] }, _, _, _, _⟩ : Oper) = o := Option.some.inj ho
        have hK := hK1 (by decide)
        refine ask_plain rfl ?_
        have e1 : b.eval (.tmp 15) = .int .u64 (me.toNat : Int) := hv 2 15 (by kernel_rfl) (by kernel_rfl) (of_decide_eq_true (by kernel_rfl))
        refine wp_call_fn 104 #[.tmp 15] #[33] rfl Try.f104 _ Try.func104 (by kernel_rfl) rfl #[.int .u64 (me.toNat : Int)] (by simp [e1]) ((CE1.out w1).mono ?_)
        rintro e w2 ⟨v2, rfl, hE2, hb2⟩
        exact ⟨_, rfl, hK _ _ hE2 hb2⟩
      · obtain rfl : (⟨some 17, .call { callee := (Callee.builtin Builtin.append), args := #[(Operand.tmp 13), (Operand.tmp 16)], argTypes := #[35, 35] }, _, _, _, _⟩ : Oper) = o := Option.some.inj ho
        refine ask_plain rfl ?_
        obtain ⟨e1, hown0⟩ : b.eval (.tmp 13) = r1 ∧ OwnB w1 W1.heap.size r1 Q1 := hv 0 13 (by kernel_rfl) (by kernel_rfl) (of_decide_eq_true (by kernel_rfl))
        have hown : OwnB w1 W1.heap.size (b.eval (.tmp 13)) Q1 := by rw [e1]; exact hown0
        have hsrc : EqN w1 E1 (b.eval (.tmp 16)) := hv 3 16 (by kernel_rfl) (by kernel_rfl) (of_decide_eq_true (by kernel_rfl))
        refine wp_append_B (.tmp 13) (.tmp 16) rfl W1.heap.size Q1 E1 hown hsrc (by have := L2.out; have := HQL1.out; omega) (Nat.le_trans HBW2.out hbel.2.1.size) ?_
        intro v' w' hown' hb'
        have h0 : Lc 0 = true := hneed 0 (by kernel_rfl)
        refine hK0 _ _ hown' (fun k v hk hnd hgo h => ?_) ⟨fun h => (by rw [upd_same] at h; cases h), hbel.2.1.trans hb', fun _ => upd_keep h0⟩
        match k, h with
        | 0, h => cases hgo
        | 1, h => exact h
        | 2, h => exact h
        | 3, h => cases hgo
        | 4, h => exact absurd rfl hk
        | 5, h => exact h
        | 6, h => exact h
        | 7, h => exact Bool.noConfusion ((show needsB _ 7 4 = true by kernel_rfl).symm.trans hnd)
        | 8, h => exact Bool.noConfusion ((show needsB _ 8 4 = true by kernel_rfl).symm.trans hnd)
        | _ + 9, _ => trivial
      · obtain rfl : (⟨some 18, .fieldAddr 83 (Operand.tmp 1) 3, _, _, _, _⟩ : Oper) = o := Option.some.inj ho
        have hK := hK1 (by decide)
        refine ask_plain rfl ?_
        have e : b.eval (.tmp 1) = .pointer (some ⟨g0, 0, none⟩) := (hstood 1 (by kernel_rfl)).trans rfl
        exact wp_val (.pointer (some ⟨g0, 3, none⟩)) (by simp only [execOp, e, Sem.run_bind, field83 g0 3 (by decide), Result.andThen]; rfl) (hK _ _ rfl (Below.refl _ _))
      · obtain rfl : (⟨some 19, .load 33 (Operand.tmp 18), _, _, _, _⟩ : Oper) = o := Option.some.inj ho
        have hK := hK1 (by decide)
        refine ask_plain rfl ?_
        have e : b.eval (.tmp 18) = .pointer (some ⟨g0, 3, none⟩) := hv 5 18 (by kernel_rfl) (by kernel_rfl) (of_decide_eq_true (by kernel_rfl))
        have hq : w1.cell? ⟨g0, 3, none⟩ = some (.int .u64 (you.toNat : Int)) := by rw [Joins.cell_of_block ((hbel.2.1.block _ HG.out).trans HBOX2.out)]; rfl
        exact wp_val (.int .u64 (you.toNat : Int)) (by simp only [execOp, e]; exact load33 _ _ _ hq) (hK _ _ rfl (Below.refl _ _))
      · obtain rfl : (⟨some 20, .call { callee := (Callee.value (Operand.func 104)), args := #[(Operand.tmp 19)], argTypes := #[33] }, _, _, _, _⟩ : Oper) = o := Option.some.inj ho
        have hK := hK1 (by decide)
        refine ask_plain rfl ?_
        have e1 : b.eval (.tmp 19) = .int .u64 (you.toNat : Int) := hv 6 19 (by kernel_rfl) (by kernel_rfl) (of_decide_eq_true (by kernel_rfl))
        refine wp_call_fn 104 #[.tmp 19] #[33] rfl Try.f104 _ Try.func104 (by kernel_rfl) rfl #[.int .u64 (you.toNat : Int)] (by simp [e1]) ((CE2.out w1).mono ?_)
        rintro e w2 ⟨v2, rfl, hE2, hb2⟩
        exact ⟨_, rfl, hK _ _ hE2 hb2⟩
      · obtain rfl : (⟨some 21, .call { callee := (Callee.builtin Builtin.append), args := #[(Operand.tmp 17), (Operand.tmp 20)], argTypes := #[35, 35] }, _, _, _, _⟩ : Oper) = o := Option.some.inj ho
        have hK := hK1 (by decide)
        refine ask_plain rfl ?_
        have hown : OwnB w1 W1.heap.size (b.eval (.tmp 17)) (Q1 ++ E1) := hv 4 17 (by kernel_rfl) (by kernel_rfl) (of_decide_eq_true (by kernel_rfl))
        have hsrc : EqN w1 E2 (b.eval (.tmp 20)) := hv 7 20 (by kernel_rfl) (by kernel_rfl) (of_decide_eq_true (by kernel_rfl))
        refine wp_append_B (.tmp 17) (.tmp 20) rfl W1.heap.size (Q1 ++ E1) E2 hown hsrc (by have := L2.out; have := L3.out; have := HQL1.out; rw [List.length_append]; omega) (Nat.le_trans HBW2.out hbel.2.1.size) ?_
        intro v' w' hown' hb'
        have ha : Lc 4 = true := hneed 4 (by kernel_rfl)
        refine hK0 _ _ hown' (fun k v hk hnd hgo h => ?_) ⟨fun h => (by rw [upd_other Lc true (by decide)] at h; rw [ha] at h; cases h), hbel.2.1.trans hb', fun _ => upd_keep (hbel.2.2 ha)⟩
        match k, h with
        | 0, h => cases hgo
        | 1, h => exact h
        | 2, h => exact h
        | 3, h => cases hgo
        | 4, h => cases hgo
        | 5, h => exact h
        | 6, h => exact h
        | 7, h => cases hgo
        | 8, h => exact absurd rfl hk
        | _ + 9, _ => trivial
    · intro vs wa2 hp ⟨_, _, hbb, _⟩
      have ho : OwnB wa2 W1.heap.size (vs 8) ((Q1 ++ E1) ++ E2) := hp 8 (by decide) (by decide)
      change wpList _ _ _ [_] _ _
      simp only [putD, Act.put, List.setIfInBounds_toArray, List.set_cons_zero, List.set_cons_succ]
      obtain ⟨r2, hr2⟩ : ∃ r, vs 8 = r := ⟨_, rfl⟩
      rw [hr2] at ho ⊢
      generalize vs 0 = y2_0, vs 1 = y2_1, vs 2 = y2_2, vs 3 = y2_3, vs 4 = y2_4, vs 5 = y2_5, vs 6 = y2_6, vs 7 = y2_7
      obtain ⟨Q2, hQ2⟩ : ∃ Q, ((Q1 ++ E1) ++ E2) = Q := ⟨_, rfl⟩
      rw [hQ2] at ho
      have HO2 := Lib.hid ho
      have HQ2 := Lib.hid hQ2
      have HQL2 := Lib.hid (show Q2.length ≤ 200 by rw [← hQ2, List.length_append, List.length_append]; have := L2.out; have := L3.out; have := HQL1.out; omega)
      have HWA2 := Lib.hid (HWA1.out.trans hbb)
      have HBW3 := Lib.hid (show W1.heap.size ≤ wa2.heap.size from HWA2.out.size)
      have HBOX3 := Lib.hid ((HWA2.out.block _ HG.out).trans HBOX1.out)
      clear ho hQ2 hp hbb hr2 HO1
      go_upto_region 3 with (fail)
      refine wp_region_came (w0 := _) 11 [some 22, some 23, some 24, some 25, some 26, some 27, some 28, some 29, some 30, some 31, some 32] (by kernel_rfl) (by kernel_rfl) (by kernel_rfl) (by kernel_rfl) (of_decide_eq_true (by kernel_rfl)) (by kernel_rfl) (fun Lc w' => (Lc 5 = false → Below wa2.heap.size wa2 w') ∧ Below W1.heap.size wa2 w' ∧ (Lc 5 = true → Lc 0 = true)) ⟨fun _ => (Below.refl _ _).drew, (Below.refl _ _).drew, fun h => by cases h⟩ (pdFI3 r2 Q2 V2 V3 W1.heap.size g0 x0 E n al bl c me you more A) (fun i k => i == 5 && (k == 0 || k == 4) || i == 10 && (k == 0 || k == 4 || k == 5 || k == 9)) (by kernel_rfl) ?_ ?_
      · intro ix hix o w1 b Lc ho hL hneed hbel hv hstood hsize K hK0
        have hK1 : ix ≠ 5 → ∀ u w', pdFI3 r2 Q2 V2 V3 W1.heap.size g0 x0 E n al bl c me you more A ix u w' → Below w1.heap.size w1 w' → K (b.put o.dst u) w' := fun hx u w' h hb => hK0 u w' h (fun k v _ _ _ h2 => pdFI3_mono r2 Q2 V2 V3 W1.heap.size g0 x0 E n al bl c me you more A k v _ _ h2 hb) ⟨fun h1 => by rw [upd_other Lc true (Ne.symm hx)] at h1; exact (hbel.1 h1).trans (hb.mono (hbel.1 h1).size), hbel.2.1.trans (hb.mono (Nat.le_trans HBW3.out hbel.2.1.size)), fun h1 => by rw [upd_other Lc true (Ne.symm hx)] at h1; exact upd_keep (hbel.2.2 h1)⟩
        have hc : ix = 0 ∨ ix = 1 ∨ ix = 2 ∨ ix = 3 ∨ ix = 4 ∨ ix = 5 ∨ ix = 6 ∨ ix = 7 ∨ ix = 8 ∨ ix = 9 ∨ ix = 10 := by omega
        rcases hc with rfl | rfl | rfl | rfl | rfl | rfl | rfl | rfl | rfl | rfl | rfl
        · obtain rfl : (⟨some 22, .move (Operand.tmp 3), _, _, _, _⟩ : Oper) = o := Option.some.inj ho
          have hK := hK1 (by decide)
          refine ask_plain rfl ?_
          have h1 : Lc 5 = false := by
                  cases hq : Lc 5 with
                  | false => rfl
                  | true => have := hbel.2.2 hq; rw [hL] at this; cases this
          have e : b.eval (.tmp 3) = r2 := (hstood 3 (by kernel_rfl)).trans rfl
          exact wp_val _ rfl (hK _ _ ⟨e, HO2.out.below (hbel.1 h1)⟩ (Below.refl _ _))
        · obtain rfl : (⟨some 23, .fieldAddr 83 (Operand.tmp 1) 4, _, _, _, _⟩ : Oper) = o := Option.some.inj ho
          have hK := hK1 (by decide)
          refine ask_plain rfl ?_
          have e : b.eval (.tmp 1) = .pointer (some ⟨g0, 0, none⟩) := (hstood 1 (by kernel_rfl)).trans rfl
          exact wp_val (.pointer (some ⟨g0, 4, none⟩)) (by simp only [execOp, e, Sem.run_bind, field83 g0 4 (by decide), Result.andThen]; rfl) (hK _ _ rfl (Below.refl _ _))
        · obtain rfl : (⟨some 24, .load 3 (Operand.tmp 23), _, _, _, _⟩ : Oper) = o := Option.some.inj ho
          have hK := hK1 (by decide)
          refine ask_plain rfl ?_
          have e : b.eval (.tmp 23) = .pointer (some ⟨g0, 4, none⟩) := hv 1 23 (by kernel_rfl) (by kernel_rfl) (of_decide_eq_true (by kernel_rfl))
          have hq : w1.cell? ⟨g0, 4, none⟩ = some (.int .i64 (n : Int)) := by rw [Joins.cell_of_block ((hbel.2.1.block _ HG.out).trans HBOX3.out)]; rfl
          exact wp_val (.int .i64 (n : Int)) (by simp only [execOp, e]; exact load3 _ _ _ hq) (hK _ _ rfl (Below.refl _ _))
        · obtain rfl : (⟨some 25, .convert 3 33 (Operand.tmp 24), _, _, _, _⟩ : Oper) = o := Option.some.inj ho
          have hK := hK1 (by decide)
          refine ask_plain rfl ?_
          have e : b.eval (.tmp 24) = .int .i64 (n : Int) := hv 2 24 (by kernel_rfl) (by kernel_rfl) (of_decide_eq_true (by kernel_rfl))
          exact wp_val (.int .u64 (n : Int)) (by simp only [execOp, e, Sem.run_bind, conv3_33 n HNL.out, Result.andThen]; rfl) (hK _ _ rfl (Below.refl _ _))
        · obtain rfl : (⟨some 26, .call { callee := (Callee.value (Operand.func 103)), args := #[(Operand.tmp 25)], argTypes := #[33] }, _, _, _, _⟩ : Oper) = o := Option.some.inj ho
          have hK := hK1 (by decide)
          refine ask_plain rfl ?_
          have e1 : b.eval (.tmp 25) = .int .u64 (n : Int) := hv 3 25 (by kernel_rfl) (by kernel_rfl) (of_decide_eq_true (by kernel_rfl))
          refine wp_call_fn 103 #[.tmp 25] #[33] rfl Try.f103 _ Try.func103 (by kernel_rfl) rfl #[.int .u64 (n : Int)] (by simp [e1]) ((CV2.out w1).mono ?_)
          rintro e w2 ⟨v2, rfl, hE2, hb2⟩
          exact ⟨_, rfl, hK _ _ hE2 hb2⟩
        · obtain rfl : (⟨some 27, .call { callee := (Callee.builtin Builtin.append), args := #[(Operand.tmp 22), (Operand.tmp 26)], argTypes := #[35, 35] }, _, _, _, _⟩ : Oper) = o := Option.some.inj ho
          refine ask_plain rfl ?_
          obtain ⟨e1, hown0⟩ : b.eval (.tmp 22) = r2 ∧ OwnB w1 W1.heap.size r2 Q2 := hv 0 22 (by kernel_rfl) (by kernel_rfl) (of_decide_eq_true (by kernel_rfl))
          have hown : OwnB w1 W1.heap.size (b.eval (.tmp 22)) Q2 := by rw [e1]; exact hown0
          have hsrc : EqN w1 V2 (b.eval (.tmp 26)) := hv 4 26 (by kernel_rfl) (by kernel_rfl) (of_decide_eq_true (by kernel_rfl))
          refine wp_append_B (.tmp 22) (.tmp 26) rfl W1.heap.size Q2 V2 hown hsrc (by have := L4.out; have := HQL2.out; omega) (Nat.le_trans HBW3.out hbel.2.1.size) ?_
          intro v' w' hown' hb'
          have h0 : Lc 0 = true := hneed 0 (by kernel_rfl)
          refine hK0 _ _ hown' (fun k v hk hnd hgo h => ?_) ⟨fun h => (by rw [upd_same] at h; cases h), hbel.2.1.trans hb', fun _ => upd_keep h0⟩
          match k, h with
          | 0, h => cases hgo
          | 1, h => exact h
          | 2, h => exact h
          | 3, h => exact h
          | 4, h => cases hgo
          | 5, h => exact absurd rfl hk
          | 6, h => exact h
          | 7, h => exact h
          | 8, h => exact h
          | 9, h => exact Bool.noConfusion ((show needsB _ 9 5 = true by kernel_rfl).symm.trans hnd)
          | 10, h => exact Bool.noConfusion ((show needsB _ 10 5 = true by kernel_rfl).symm.trans hnd)
          | _ + 11, _ => trivial
        · obtain rfl : (⟨some 28, .fieldAddr 83 (Operand.tmp 1) 6, _, _, _, _⟩ : Oper) = o := Option.some.inj ho
          have hK := hK1 (by decide)
          refine ask_plain rfl ?_
          have e : b.eval (.tmp 1) = .pointer (some ⟨g0, 0, none⟩) := (hstood 1 (by kernel_rfl)).trans rfl
          exact wp_val (.pointer (some ⟨g0, 6, none⟩)) (by simp only [execOp, e, Sem.run_bind, field83 g0 6 (by decide), Result.andThen]; rfl) (hK _ _ rfl (Below.refl _ _))
        · obtain rfl : (⟨some 29, .load 3 (Operand.tmp 28), _, _, _, _⟩ : Oper) = o := Option.some.inj ho
          have hK := hK1 (by decide)
          refine ask_plain rfl ?_
          have e : b.eval (.tmp 28) = .pointer (some ⟨g0, 6, none⟩) := hv 6 28 (by kernel_rfl) (by kernel_rfl) (of_decide_eq_true (by kernel_rfl))
          have hq : w1.cell? ⟨g0, 6, none⟩ = some (.int .i64 (al : Int)) := by rw [Joins.cell_of_block ((hbel.2.1.block _ HG.out).trans HBOX3.out)]; rfl
          exact wp_val (.int .i64 (al : Int)) (by simp only [execOp, e]; exact load3 _ _ _ hq) (hK _ _ rfl (Below.refl _ _))
        · obtain rfl : (⟨some 30, .convert 3 33 (Operand.tmp 29), _, _, _, _⟩ : Oper) = o := Option.some.inj ho
          have hK := hK1 (by decide)
          refine ask_plain rfl ?_
          have e : b.eval (.tmp 29) = .int .i64 (al : Int) := hv 7 29 (by kernel_rfl) (by kernel_rfl) (of_decide_eq_true (by kernel_rfl))
          exact wp_val (.int .u64 (al : Int)) (by simp only [execOp, e, Sem.run_bind, conv3_33 al HAL.out, Result.andThen]; rfl) (hK _ _ rfl (Below.refl _ _))
        · obtain rfl : (⟨some 31, .call { callee := (Callee.value (Operand.func 103)), args := #[(Operand.tmp 30)], argTypes := #[33] }, _, _, _, _⟩ : Oper) = o := Option.some.inj ho
          have hK := hK1 (by decide)
          refine ask_plain rfl ?_
          have e1 : b.eval (.tmp 30) = .int .u64 (al : Int) := hv 8 30 (by kernel_rfl) (by kernel_rfl) (of_decide_eq_true (by kernel_rfl))
          refine wp_call_fn 103 #[.tmp 30] #[33] rfl Try.f103 _ Try.func103 (by kernel_rfl) rfl #[.int .u64 (al : Int)] (by simp [e1]) ((CV3.out w1).mono ?_)
          rintro e w2 ⟨v2, rfl, hE2, hb2⟩
          exact ⟨_, rfl, hK _ _ hE2 hb2⟩
        · obtain rfl : (⟨some 32, .call { callee := (Callee.builtin Builtin.append), args := #[(Operand.tmp 27), (Operand.tmp 31)], argTypes := #[35, 35] }, _, _, _, _⟩ : Oper) = o := Option.some.inj ho
          have hK := hK1 (by decide)
          refine ask_plain rfl ?_
          have hown : OwnB w1 W1.heap.size (b.eval (.tmp 27)) (Q2 ++ V2) := hv 5 27 (by kernel_rfl) (by kernel_rfl) (of_decide_eq_true (by kernel_rfl))
          have hsrc : EqN w1 V3 (b.eval (.tmp 31)) := hv 9 31 (by kernel_rfl) (by kernel_rfl) (of_decide_eq_true (by kernel_rfl))
          refine wp_append_B (.tmp 27) (.tmp 31) rfl W1.heap.size (Q2 ++ V2) V3 hown hsrc (by have := L4.out; have := L5.out; have := HQL2.out; rw [List.length_append]; omega) (Nat.le_trans HBW3.out hbel.2.1.size) ?_
          intro v' w' hown' hb'
          have ha : Lc 5 = true := hneed 5 (by kernel_rfl)
          refine hK0 _ _ hown' (fun k v hk hnd hgo h => ?_) ⟨fun h => (by rw [upd_other Lc true (by decide)] at h; rw [ha] at h; cases h), hbel.2.1.trans hb', fun _ => upd_keep (hbel.2.2 ha)⟩
          match k, h with
          | 0, h => cases hgo
          | 1, h => exact h
          | 2, h => exact h
          | 3, h => exact h
          | 4, h => cases hgo
          | 5, h => cases hgo
          | 6, h => exact h
          | 7, h => exact h
          | 8, h => exact h
          | 9, h => cases hgo
          | 10, h => exact absurd rfl hk
          | _ + 11, _ => trivial
      · intro vs wa3 hp ⟨_, _, hbb, _⟩
        have ho : OwnB wa3 W1.heap.size (vs 10) ((Q2 ++ V2) ++ V3) := hp 10 (by decide) (by decide)
        change wpList _ _ _ [_] _ _
        simp only [putD, Act.put, List.setIfInBounds_toArray, List.set_cons_zero, List.set_cons_succ]
        obtain ⟨r3, hr3⟩ : ∃ r, vs 10 = r := ⟨_, rfl⟩
        rw [hr3] at ho ⊢
        generalize vs 0 = y3_0, vs 1 = y3_1, vs 2 = y3_2, vs 3 = y3_3, vs 4 = y3_4, vs 5 = y3_5, vs 6 = y3_6, vs 7 = y3_7, vs 8 = y3_8, vs 9 = y3_9
        obtain ⟨Q3, hQ3⟩ : ∃ Q, ((Q2 ++ V2) ++ V3) = Q := ⟨_, rfl⟩
        rw [hQ3] at ho
        have HO3 := Lib.hid ho
        have HQ3 := Lib.hid hQ3
        have HQL3 := Lib.hid (show Q3.length ≤ 300 by rw [← hQ3, List.length_append, List.length_append]; have := L4.out; have := L5.out; have := HQL2.out; omega)
        have HWA3 := Lib.hid (HWA2.out.trans hbb)
        have HBW4 := Lib.hid (show W1.heap.size ≤ wa3.heap.size from HWA3.out.size)
        have HBOX4 := Lib.hid ((HWA3.out.block _ HG.out).trans HBOX1.out)
        clear ho hQ3 hp hbb hr3 HO2
        go_upto_region 4 with (fail)
        refine wp_region_came (w0 := _) 11 [some 33, some 34, some 35, some 36, some 37, some 38, some 39, some 40, some 41, some 42, some 43] (by kernel_rfl) (by kernel_rfl) (by kernel_rfl) (by kernel_rfl) (of_decide_eq_true (by kernel_rfl)) (by kernel_rfl) (fun Lc w' => (Lc 4 = false → Below wa3.heap.size wa3 w') ∧ Below W1.heap.size wa3 w' ∧ (Lc 4 = true → Lc 0 = true)) ⟨fun _ => (Below.refl _ _).drew, (Below.refl _ _).drew, fun h => by cases h⟩ (pdFI4 r3 Q3 E3 V4 W1.heap.size g0 x0 E n al bl c me you more A) (fun i k => i == 4 && (k == 0 || k == 3) || i == 10 && (k == 0 || k == 3 || k == 4 || k == 9)) (by kernel_rfl) ?_ ?_
        · intro ix hix o w1 b Lc ho hL hneed hbel hv hstood hsize K hK0
          have hK1 : ix ≠ 4 → ∀ u w', pdFI4 r3 Q3 E3 V4 W1.heap.size g0 x0 E n al bl c me you more A ix u w' → Below w1.heap.size w1 w' → K (b.put o.dst u) w' := fun hx u w' h hb => hK0 u w' h (fun k v _ _ _ h2 => pdFI4_mono r3 Q3 E3 V4 W1.heap.size g0 x0 E n al bl c me you more A k v _ _ h2 hb) ⟨fun h1 => by rw [upd_other Lc true (Ne.symm hx)] at h1; exact (hbel.1 h1).trans (hb.mono (hbel.1 h1).size), hbel.2.1.trans (hb.mono (Nat.le_trans HBW4.out hbel.2.1.size)), fun h1 => by rw [upd_other Lc true (Ne.symm hx)] at h1; exact upd_keep (hbel.2.2 h1)⟩
          have hc : ix = 0 ∨ ix = 1 ∨ ix = 2 ∨ ix = 3 ∨ ix = 4 ∨ ix = 5 ∨ ix = 6 ∨ ix = 7 ∨ ix = 8 ∨ ix = 9 ∨ ix = 10 := by omega
          rcases hc with rfl | rfl | rfl | rfl | rfl | rfl | rfl | rfl | rfl | rfl | rfl
          · obtain rfl : (⟨some 33, .move (Operand.tmp 3), _, _, _, _⟩ : Oper) = o := Option.some.inj ho
            have hK := hK1 (by decide)
            refine ask_plain rfl ?_
            have h1 : Lc 4 = false := by
                    cases hq : Lc 4 with
                    | false => rfl
                    | true => have := hbel.2.2 hq; rw [hL] at this; cases this
            have e : b.eval (.tmp 3) = r3 := (hstood 3 (by kernel_rfl)).trans rfl
            exact wp_val _ rfl (hK _ _ ⟨e, HO3.out.below (hbel.1 h1)⟩ (Below.refl _ _))
          · obtain rfl : (⟨some 34, .fieldAddr 83 (Operand.tmp 1) 7, _, _, _, _⟩ : Oper) = o := Option.some.inj ho
            have hK := hK1 (by decide)
            refine ask_plain rfl ?_
            have e : b.eval (.tmp 1) = .pointer (some ⟨g0, 0, none⟩) := (hstood 1 (by kernel_rfl)).trans rfl
            exact wp_val (.pointer (some ⟨g0, 7, none⟩)) (by simp only [execOp, e, Sem.run_bind, field83 g0 7 (by decide), Result.andThen]; rfl) (hK _ _ rfl (Below.refl _ _))
          · obtain rfl : (⟨some 35, .load 33 (Operand.tmp 34), _, _, _, _⟩ : Oper) = o := Option.some.inj ho
            have hK := hK1 (by decide)
            refine ask_plain rfl ?_
            have e : b.eval (.tmp 34) = .pointer (some ⟨g0, 7, none⟩) := hv 1 34 (by kernel_rfl) (by kernel_rfl) (of_decide_eq_true (by kernel_rfl))
            have hq : w1.cell? ⟨g0, 7, none⟩ = some (.int .u64 (more.toNat : Int)) := by rw [Joins.cell_of_block ((hbel.2.1.block _ HG.out).trans HBOX4.out)]; rfl
            exact wp_val (.int .u64 (more.toNat : Int)) (by simp only [execOp, e]; exact load33 _ _ _ hq) (hK _ _ rfl (Below.refl _ _))
          · obtain rfl : (⟨some 36, .call { callee := (Callee.value (Operand.func 104)), args := #[(Operand.tmp 35)], argTypes := #[33] }, _, _, _, _⟩ : Oper) = o := Option.some.inj ho
            have hK := hK1 (by decide)
            refine ask_plain rfl ?_
            have e1 : b.eval (.tmp 35) = .int .u64 (more.toNat : Int) := hv 2 35 (by kernel_rfl) (by kernel_rfl) (of_decide_eq_true (by kernel_rfl))
            refine wp_call_fn 104 #[.tmp 35] #[33] rfl Try.f104 _ Try.func104 (by kernel_rfl) rfl #[.int .u64 (more.toNat : Int)] (by simp [e1]) ((CE3.out w1).mono ?_)
            rintro e w2 ⟨v2, rfl, hE2, hb2⟩
            exact ⟨_, rfl, hK _ _ hE2 hb2⟩
          · obtain rfl : (⟨some 37, .call { callee := (Callee.builtin Builtin.append), args := #[(Operand.tmp 33), (Operand.tmp 36)], argTypes := #[35, 35] }, _, _, _, _⟩ : Oper) = o := Option.some.inj ho
            refine ask_plain rfl ?_
            obtain ⟨e1, hown0⟩ : b.eval (.tmp 33) = r3 ∧ OwnB w1 W1.heap.size r3 Q3 := hv 0 33 (by kernel_rfl) (by kernel_rfl) (of_decide_eq_true (by kernel_rfl))
            have hown : OwnB w1 W1.heap.size (b.eval (.tmp 33)) Q3 := by rw [e1]; exact hown0
            have hsrc : EqN w1 E3 (b.eval (.tmp 36)) := hv 3 36 (by kernel_rfl) (by kernel_rfl) (of_decide_eq_true (by kernel_rfl))
            refine wp_append_B (.tmp 33) (.tmp 36) rfl W1.heap.size Q3 E3 hown hsrc (by have := L6.out; have := HQL3.out; omega) (Nat.le_trans HBW4.out hbel.2.1.size) ?_
            intro v' w' hown' hb'
            have h0 : Lc 0 = true := hneed 0 (by kernel_rfl)
            refine hK0 _ _ hown' (fun k v hk hnd hgo h => ?_) ⟨fun h => (by rw [upd_same] at h; cases h), hbel.2.1.trans hb', fun _ => upd_keep h0⟩
            match k, h with
            | 0, h => cases hgo
            | 1, h => exact h
            | 2, h => exact h
            | 3, h => cases hgo
            | 4, h => exact absurd rfl hk
            | 5, h => exact h
            | 6, h => exact h
            | 7, h => exact h
            | 8, h => exact h
            | 9, h => exact Bool.noConfusion ((show needsB _ 9 4 = true by kernel_rfl).symm.trans hnd)
            | 10, h => exact Bool.noConfusion ((show needsB _ 10 4 = true by kernel_rfl).symm.trans hnd)
            | _ + 11, _ => trivial
          · obtain rfl : (⟨some 38, .fieldAddr 83 (Operand.tmp 1) 5, _, _, _, _⟩ : Oper) = o := Option.some.inj ho
            have hK := hK1 (by decide)
            refine ask_plain rfl ?_
            have e : b.eval (.tmp 1) = .pointer (some ⟨g0, 0, none⟩) := (hstood 1 (by kernel_rfl)).trans rfl
            exact wp_val (.pointer (some ⟨g0, 5, none⟩)) (by simp only [execOp, e, Sem.run_bind, field83 g0 5 (by decide), Result.andThen]; rfl) (hK _ _ rfl (Below.refl _ _))
          · obtain rfl : (⟨some 39, .load 35 (Operand.tmp 38), _, _, _, _⟩ : Oper) = o := Option.some.inj ho
            have hK := hK1 (by decide)
            refine ask_plain rfl ?_
            have e : b.eval (.tmp 38) = .pointer (some ⟨g0, 5, none⟩) := hv 5 38 (by kernel_rfl) (by kernel_rfl) (of_decide_eq_true (by kernel_rfl))
            have hq : w1.cell? ⟨g0, 5, none⟩ = some (.slice A bl c) := by rw [Joins.cell_of_block ((hbel.2.1.block _ HG.out).trans HBOX4.out)]; rfl
            exact wp_val (.slice A bl c) (by simp only [execOp, e]; exact load35 _ _ _ _ _ hq) (hK _ _ rfl (Below.refl _ _))
          · obtain rfl : (⟨some 40, .call { callee := (Callee.builtin Builtin.len), args := #[(Operand.tmp 39)], argTypes := #[35] }, _, _, _, _⟩ : Oper) = o := Option.some.inj ho
            have hK := hK1 (by decide)
            refine ask_plain rfl ?_
            have e : b.eval (.tmp 39) = .slice A bl c := hv 6 39 (by kernel_rfl) (by kernel_rfl) (of_decide_eq_true (by kernel_rfl))
            exact wp_len35F (.tmp 39) rfl A bl c e (hK _ _ rfl (Below.refl _ _))
          · obtain rfl : (⟨some 41, .convert 3 33 (Operand.tmp 40), _, _, _, _⟩ : Oper) = o := Option.some.inj ho
            have hK := hK1 (by decide)
            refine ask_plain rfl ?_
            have e : b.eval (.tmp 40) = .int .i64 (bl : Int) := hv 7 40 (by kernel_rfl) (by kernel_rfl) (of_decide_eq_true (by kernel_rfl))
            exact wp_val (.int .u64 (bl : Int)) (by simp only [execOp, e, Sem.run_bind, conv3_33 bl HBL.out, Result.andThen]; rfl) (hK _ _ rfl (Below.refl _ _))
          · obtain rfl : (⟨some 42, .call { callee := (Callee.value (Operand.func 103)), args := #[(Operand.tmp 41)], argTypes := #[33] }, _, _, _, _⟩ : Oper) = o := Option.some.inj ho
            have hK := hK1 (by decide)
            refine ask_plain rfl ?_
            have e1 : b.eval (.tmp 41) = .int .u64 (bl : Int) := hv 8 41 (by kernel_rfl) (by kernel_rfl) (of_decide_eq_true (by kernel_rfl))
            refine wp_call_fn 103 #[.tmp 41] #[33] rfl Try.f103 _ Try.func103 (by kernel_rfl) rfl #[.int .u64 (bl : Int)] (by simp [e1]) ((CV4.out w1).mono ?_)
            rintro e w2 ⟨v2, rfl, hE2, hb2⟩
            exact ⟨_, rfl, hK _ _ hE2 hb2⟩
          · obtain rfl : (⟨some 43, .call { callee := (Callee.builtin Builtin.append), args := #[(Operand.tmp 37), (Operand.tmp 42)], argTypes := #[35, 35] }, _, _, _, _⟩ : Oper) = o := Option.some.inj ho
            have hK := hK1 (by decide)
            refine ask_plain rfl ?_
            have hown : OwnB w1 W1.heap.size (b.eval (.tmp 37)) (Q3 ++ E3) := hv 4 37 (by kernel_rfl) (by kernel_rfl) (of_decide_eq_true (by kernel_rfl))
            have hsrc : EqN w1 V4 (b.eval (.tmp 42)) := hv 9 42 (by kernel_rfl) (by kernel_rfl) (of_decide_eq_true (by kernel_rfl))
            refine wp_append_B (.tmp 37) (.tmp 42) rfl W1.heap.size (Q3 ++ E3) V4 hown hsrc (by have := L6.out; have := L7.out; have := HQL3.out; rw [List.length_append]; omega) (Nat.le_trans HBW4.out hbel.2.1.size) ?_
            intro v' w' hown' hb'
            have ha : Lc 4 = true := hneed 4 (by kernel_rfl)
            refine hK0 _ _ hown' (fun k v hk hnd hgo h => ?_) ⟨fun h => (by rw [upd_other Lc true (by decide)] at h; rw [ha] at h; cases h), hbel.2.1.trans hb', fun _ => upd_keep (hbel.2.2 ha)⟩
            match k, h with
            | 0, h => cases hgo
            | 1, h => exact h
            | 2, h => exact h
            | 3, h => cases hgo
            | 4, h => cases hgo
            | 5, h => exact h
            | 6, h => exact h
            | 7, h => exact h
            | 8, h => exact h
            | 9, h => cases hgo
            | 10, h => exact absurd rfl hk
            | _ + 11, _ => trivial
        · intro vs wa4 hp ⟨_, _, hbb, _⟩
          have ho : OwnB wa4 W1.heap.size (vs 10) ((Q3 ++ E3) ++ V4) := hp 10 (by decide) (by decide)
          change wpList _ _ _ [_] _ _
          simp only [putD, Act.put, List.setIfInBounds_toArray, List.set_cons_zero, List.set_cons_succ]
          obtain ⟨r4, hr4⟩ : ∃ r, vs 10 = r := ⟨_, rfl⟩
          rw [hr4] at ho ⊢
          generalize vs 0 = y4_0, vs 1 = y4_1, vs 2 = y4_2, vs 3 = y4_3, vs 4 = y4_4, vs 5 = y4_5, vs 6 = y4_6, vs 7 = y4_7, vs 8 = y4_8, vs 9 = y4_9
          obtain ⟨Q4, hQ4⟩ : ∃ Q, ((Q3 ++ E3) ++ V4) = Q := ⟨_, rfl⟩
          rw [hQ4] at ho
          have HO4 := Lib.hid ho
          have HQ4 := Lib.hid hQ4
          have HQL4 := Lib.hid (show Q4.length ≤ 400 by rw [← hQ4, List.length_append, List.length_append]; have := L6.out; have := L7.out; have := HQL3.out; omega)
          have HWA4 := Lib.hid (HWA3.out.trans hbb)
          have HBW5 := Lib.hid (show W1.heap.size ≤ wa4.heap.size from HWA4.out.size)
          have HBOX5 := Lib.hid ((HWA4.out.block _ HG.out).trans HBOX1.out)
          clear ho hQ4 hp hbb hr4 HO3
          go_upto_region 5 with (fail)
          have hb4 : Below w.heap.size w wa4 := HW.out.trans (HWA4.out.mono HW.out.size)
          have HE4 := Lib.hid (HEB.out.below hb4)
          have HB4 := Lib.hid hb4
          have hq : wa4.cell? ⟨g0, 5, none⟩ = some (.slice A bl c) := by rw [Joins.cell_of_block HBOX5.out]; rfl
          clear hb4
          go_wp2_with (first | (at_builtin; refine wpList_append_B rfl (.tmp 44) (.tmp 46) rfl W1.heap.size Q4 body HO4.out HE4.out (by have := HQL4.out; have := HB6.out; omega) HBW5.out ?_; intro v5 w5 hown5 hb5; have HO5 := Lib.hid hown5; have HB5 := Lib.hid (HB4.out.trans (hb5.mono HW.out.size)); clear hown5 hb5) | fail)
          go_ret
          refine ⟨_, rfl, ?_, HB5.out⟩
          have ho := HO5.out
          rw [← HQ4.out, ← HQ3.out, ← HQ2.out, ← HQ1.out, HF.out] at ho
          exact own_weak HW.out.size ho
end Go.Proofs.Ytjaakhjfpigdfaa
/-! A frame's bytes. -/
namespace Go.Proofs.Ytjaakhjfpigdfaa
open Go.RowKit
set_option linter.unusedVariables false
set_option linter.unusedSimpArgs false
def pdFJ1 (b0 : Value) (L P1 P2 : By) (B g0 : Nat) (x0 : BitVec 8) (E n al bl c : Nat) (me you more : BitVec 64) (A : Option Addr) : Nat → Value → World → Prop
  | 0 => fun v w => v = .pointer (some ⟨g0, 0, none⟩)
  | 1 => fun v w => v = .int .i64 (x0.toNat : Int)
  | 2 => fun v w => v = .int .u8 (x0.toNat : Int)
  | 3 => fun v w => OwnB w B v [70#8, x0]
  | 4 => fun v w => v = .pointer (some ⟨g0, 1, none⟩)
  | 5 => fun v w => v = .int .i64 (E : Int)
  | 6 => fun v w => v = .int .u64 (E : Int)
  | 7 => fun v w => EqN w P1 v
  | 8 => fun v w => OwnB w B v ([70#8, x0] ++ P1)
  | _ => fun _ _ => True
theorem pdFJ1_mono (b0 : Value) (L P1 P2 : By) (B g0 : Nat) (x0 : BitVec 8) (E n al bl c : Nat) (me you more : BitVec 64) (A : Option Addr) : ∀ q0 v w w', pdFJ1 b0 L P1 P2 B g0 x0 E n al bl c me you more A q0 v w → Below w.heap.size w w' → pdFJ1 b0 L P1 P2 B g0 x0 E n al bl c me you more A q0 v w'
  | 0, _, _, _, h, _ => h
  | 1, _, _, _, h, _ => h
  | 2, _, _, _, h, _ => h
  | 3, _, _, _, h, hb => OwnB.below h hb
  | 4, _, _, _, h, _ => h
  | 5, _, _, _, h, _ => h
  | 6, _, _, _, h, _ => h
  | 7, _, _, _, h, hb => EqN.below h hb
  | 8, _, _, _, h, hb => OwnB.below h hb
  | _ + 9, _, _, _, _, _ => trivial
def pdFJ2 (b0 : Value) (L P1 P2 : By) (B g0 : Nat) (x0 : BitVec 8) (E n al bl c : Nat) (me you more : BitVec 64) (A : Option Addr) : Nat → Value → World → Prop
  | 0 => fun v w => v = b0 ∧ OwnB w B b0 L
  | 1 => fun v w => v = .pointer (some ⟨g0, 2, none⟩)
  | 2 => fun v w => v = .int .u64 (me.toNat : Int)
  | 3 => fun v w => EqN w P1 v
  | 4 => fun v w => OwnB w B v (L ++ P1)
  | 5 => fun v w => v = .pointer (some ⟨g0, 3, none⟩)
  | 6 => fun v w => v = .int .u64 (you.toNat : Int)
  | 7 => fun v w => EqN w P2 v
  | 8 => fun v w => OwnB w B v ((L ++ P1) ++ P2)
  | _ => fun _ _ => True
theorem pdFJ2_mono (b0 : Value) (L P1 P2 : By) (B g0 : Nat) (x0 : BitVec 8) (E n al bl c : Nat) (me you more : BitVec 64) (A : Option Addr) : ∀ q0 v w w', pdFJ2 b0 L P1 P2 B g0 x0 E n al bl c me you more A q0 v w → Below w.heap.size w w' → pdFJ2 b0 L P1 P2 B g0 x0 E n al bl c me you more A q0 v w'
  | 0, _, _, _, h, hb => ⟨h.1, h.2.below hb⟩
  | 1, _, _, _, h, _ => h
  | 2, _, _, _, h, _ => h
  | 3, _, _, _, h, hb => EqN.below h hb
  | 4, _, _, _, h, hb => OwnB.below h hb
  | 5, _, _, _, h, _ => h
  | 6, _, _, _, h, _ => h
  | 7, _, _, _, h, hb => EqN.below h hb
  | 8, _, _, _, h, hb => OwnB.below h hb
  | _ + 9, _, _, _, _, _ => trivial
def pdFJ3 (b0 : Value) (L P1 P2 : By) (B g0 : Nat) (x0 : BitVec 8) (E n al bl c : Nat) (me you more : BitVec 64) (A : Option Addr) : Nat → Value → World → Prop
  | 0 => fun v w => v = b0 ∧ OwnB w B b0 L
  | 1 => fun v w => v = .pointer (some ⟨g0, 4, none⟩)
  | 2 => fun v w => v = .int .i64 (n : Int)
  | 3 => fun v w => v = .int .u64 (n : Int)
  | 4 => fun v w => EqN w P1 v
  | 5 => fun v w => OwnB w B v (L ++ P1)
  | 6 => fun v w => v = .pointer (some ⟨g0, 6, none⟩)
  | 7 => fun v w => v = .int .i64 (al : Int)
  | 8 => fun v w => v = .int .u64 (al : Int)
  | 9 => fun v w => EqN w P2 v
  | 10 => fun v w => OwnB w B v ((L ++ P1) ++ P2)
  | _ => fun _ _ => True
theorem pdFJ3_mono (b0 : Value) (L P1 P2 : By) (B g0 : Nat) (x0 : BitVec 8) (E n al bl c : Nat) (me you more : BitVec 64) (A : Option Addr) : ∀ q0 v w w', pdFJ3 b0 L P1 P2 B g0 x0 E n al bl c me you more A q0 v w → Below w.heap.size w w' → pdFJ3 b0 L P1 P2 B g0 x0 E n al bl c me you more A q0 v w'
  | 0, _, _, _, h, hb => ⟨h.1, h.2.below hb⟩
  | 1, _, _, _, h, _ => h
  | 2, _, _, _, h, _ => h
  | 3, _, _, _, h, _ => h
  | 4, _, _, _, h, hb => EqN.below h hb
  | 5, _, _, _, h, hb => OwnB.below h hb
  | 6, _, _, _, h, _ => h
  | 7, _, _, _, h, _ => h
  | 8, _, _, _, h, _ => h
  | 9, _, _, _, h, hb => EqN.below h hb
  | 10, _, _, _, h, hb => OwnB.below h hb
  | _ + 11, _, _, _, _, _ => trivial
def pdFJ4 (b0 : Value) (L P1 P2 : By) (B g0 : Nat) (x0 : BitVec 8) (E n al bl c : Nat) (me you more : BitVec 64) (A : Option Addr) : Nat → Value → World → Prop
  | 0 => fun v w => v = b0 ∧ OwnB w B b0 L
  | 1 => fun v w => v = .pointer (some ⟨g0, 7, none⟩)
  | 2 => fun v w => v = .int .u64 (more.toNat : Int)
  | 3 => fun v w => EqN w P1 v
  | 4 => fun v w => OwnB w B v (L ++ P1)
  | 5 => fun v w => v = .pointer (some ⟨g0, 5, none⟩)
  | 6 => fun v w => v = .slice A bl c
  | 7 => fun v w => v = .int .i64 (bl : Int)
  | 8 => fun v w => v = .int .u64 (bl : Int)
  | 9 => fun v w => EqN w P2 v
  | 10 => fun v w => OwnB w B v ((L ++ P1) ++ P2)
  | _ => fun _ _ => True
theorem pdFJ4_mono (b0 : Value) (L P1 P2 : By) (B g0 : Nat) (x0 : BitVec 8) (E n al bl c : Nat) (me you more : BitVec 64) (A : Option Addr) : ∀ q0 v w w', pdFJ4 b0 L P1 P2 B g0 x0 E n al bl c me you more A q0 v w → Below w.heap.size w w' → pdFJ4 b0 L P1 P2 B g0 x0 E n al bl c me you more A q0 v w'
  | 0, _, _, _, h, hb => ⟨h.1, h.2.below hb⟩
  | 1, _, _, _, h, _ => h
  | 2, _, _, _, h, _ => h
  | 3, _, _, _, h, hb => EqN.below h hb
  | 4, _, _, _, h, hb => OwnB.below h hb
  | 5, _, _, _, h, _ => h
  | 6, _, _, _, h, _ => h
  | 7, _, _, _, h, _ => h
  | 8, _, _, _, h, _ => h
  | 9, _, _, _, h, hb => EqN.below h hb
  | 10, _, _, _, h, hb => OwnB.below h hb
  | _ + 11, _, _, _, _, _ => trivial
set_option maxRecDepth 100000 in
set_option maxHeartbeats 8000000 in
theorem rbody_any (f : Fr) (u : Value) (w : World) (hu : EqN w f.body u) (hok : okF f = true) : Calls Try.prog 93 #[frV f u] w fun e w' => ∃ v, e = .returned v ∧ OwnB w' w.heap.size v (bodyF f) ∧ Below w.heap.size w w' := by
  obtain ⟨h1, h2, h3, h4, h5, h6, h7⟩ := (okF_iff f).1 hok
  obtain ⟨A, c, rfl, hc, hr, hn⟩ := hu
  obtain ⟨fr, ep, me, you, nn, body, all, more⟩ := f
  simp only at h1 h2 h3 h4 h5 h6 h7 hc hr hn
  obtain ⟨E, rfl⟩ : ∃ E : Nat, ep = (E : Int) := ⟨ep.toNat, by omega⟩
  obtain ⟨n, rfl⟩ : ∃ E : Nat, nn = (E : Int) := ⟨nn.toNat, by omega⟩
  obtain ⟨al, rfl⟩ : ∃ E : Nat, all = (E : Int) := ⟨all.toNat, by omega⟩
  obtain ⟨x0, hx0, rfl⟩ : ∃ x0 : BitVec 8, BitVec.ofInt 8 fr = x0 ∧ fr = (x0.toNat : Int) := ⟨BitVec.ofInt 8 fr, rfl, by rcases h1 with rfl | rfl <;> rfl⟩
  have hEb : EqN w body (.slice A body.length c) := ⟨A, c, rfl, hc, hr, hn⟩
  have hv1 := vlist_len10 E
  have hv2 := vlist_len10 n
  have hv3 := vlist_len10 al
  have hv4 := vlist_len10 body.length
  unfold bodyF frV
  simp only [hx0, Int.toNat_natCast]
  obtain ⟨bl, hbl⟩ : ∃ b, body.length = b := ⟨_, rfl⟩
  rw [hbl] at hEb hv4 h6 ⊢
  have HEL := Lib.hid (show E ≤ 1073741824 by omega)
  have HNL := Lib.hid (show n ≤ 1073741824 by omega)
  have HAL := Lib.hid (show al ≤ 1073741824 by omega)
  have HBL := Lib.hid (show bl ≤ 1073741824 by omega)
  have HB6 := Lib.hid (show body.length ≤ 524288 by omega)
  have CV1 := Lib.hid (rvarintE E (by omega))
  have CV2 := Lib.hid (rvarintE n (by omega))
  have CV3 := Lib.hid (rvarintE al (by omega))
  have CV4 := Lib.hid (rvarintE bl (by omega))
  have CE1 := Lib.hid (bigE me)
  have CE2 := Lib.hid (bigE you)
  have CE3 := Lib.hid (bigE more)
  have hw1 := length_wordBytes me 8 1
  have hw2 := length_wordBytes you 8 1
  have hw3 := length_wordBytes more 8 1
  obtain ⟨V1, hV1⟩ : ∃ V, vlist 10 E = V := ⟨_, rfl⟩
  obtain ⟨V2, hV2⟩ : ∃ V, vlist 10 n = V := ⟨_, rfl⟩
  obtain ⟨V3, hV3⟩ : ∃ V, vlist 10 al = V := ⟨_, rfl⟩
  obtain ⟨V4, hV4⟩ : ∃ V, vlist 10 bl = V := ⟨_, rfl⟩
  obtain ⟨E1, hE1⟩ : ∃ V, wordBytes me 8 1 = V := ⟨_, rfl⟩
  obtain ⟨E2, hE2⟩ : ∃ V, wordBytes you 8 1 = V := ⟨_, rfl⟩
  obtain ⟨E3, hE3⟩ : ∃ V, wordBytes more 8 1 = V := ⟨_, rfl⟩
  rw [hV1] at CV1 hv1 ⊢
  rw [hV2] at CV2 hv2 ⊢
  rw [hV3] at CV3 hv3 ⊢
  rw [hV4] at CV4 hv4 ⊢
  rw [hE1] at CE1 hw1 ⊢
  rw [hE2] at CE2 hw2 ⊢
  rw [hE3] at CE3 hw3 ⊢
  obtain ⟨F, hF⟩ : ∃ F, [70#8, x0] ++ (V1 ++ (E1 ++ (E2 ++ (V2 ++ (V3 ++ (E3 ++ (V4 ++ body))))))) = F := ⟨_, rfl⟩
  have HF := Lib.hid (show (((((((([70#8, x0] ++ V1) ++ E1) ++ E2) ++ V2) ++ V3) ++ E3) ++ V4) ++ body) = F by rw [← hF]; simp only [List.append_assoc])
  rw [hF]
  have L1 := Lib.hid hv1
  have L2 := Lib.hid hw1
  have L3 := Lib.hid hw2
  have L4 := Lib.hid hv2
  have L5 := Lib.hid hv3
  have L6 := Lib.hid hw3
  have L7 := Lib.hid hv4
  have HEB := Lib.hid hEb
  obtain ⟨i5, hi5, hz5, hs5, hb5⟩ := info_parts info5
  have HI5 := Lib.hid hi5
  have HZ5 := Lib.hid hz5
  have HS5 := Lib.hid hs5
  have hfi : Instr.fill (fun i => some (i * 1, 1)) ((Array.range (2 * 1)).map ((Value.int .u8 0).cells[· % (Value.int .u8 0).cells.size]!)) [(0, .int .u8 70), (1, .int .u8 (x0.toNat : Int))] = some #[.int .u8 70, .int .u8 (x0.toNat : Int)] := by
    generalize (x0.toNat : Int) = z
    kernel_rfl
  clear h1 h2 h3 h4 h5 h6 h7 hc hr hn hok hx0 hv1 hv2 hv3 hv4 hw1 hw2 hw3 hV1 hV2 hV3 hV4 hE1 hE2 hE3 hF hbl hEb hi5 hz5 hs5 hb5
  have hbox := heap_new w (.cells #[.int .i64 (x0.toNat : Int), .int .i64 (E : Int), .int .u64 (me.toNat : Int), .int .u64 (you.toNat : Int), .int .i64 (n : Int), .slice A bl c, .int .i64 (al : Int), .int .u64 (more.toNat : Int)] 83) w.heap.size rfl
  have b1 := below_alloc1 w (.cells #[.int .i64 (x0.toNat : Int), .int .i64 (E : Int), .int .u64 (me.toNat : Int), .int .u64 (you.toNat : Int), .int .i64 (n : Int), .slice A bl c, .int .i64 (al : Int), .int .u64 (more.toNat : Int)] 83)
  have hs1 : (w.alloc (.cells #[.int .i64 (x0.toNat : Int), .int .i64 (E : Int), .int .u64 (me.toNat : Int), .int .u64 (you.toNat : Int), .int .i64 (n : Int), .slice A bl c, .int .i64 (al : Int), .int .u64 (more.toNat : Int)] 83)).heap.size = w.heap.size + 1 := size_alloc _ _
  go_enter Try.func93, Try.ntmps93
  go_upto_region 1 with (fail)
  obtain ⟨W1, hW1⟩ : ∃ W, w.alloc (.cells #[.int .i64 (x0.toNat : Int), .int .i64 (E : Int), .int .u64 (me.toNat : Int), .int .u64 (you.toNat : Int), .int .i64 (n : Int), .slice A bl c, .int .i64 (al : Int), .int .u64 (more.toNat : Int)] 83) = W := ⟨_, rfl⟩
  rw [hW1] at hbox b1 hs1
  rw [hW1]
  obtain ⟨g0, hg0⟩ : ∃ g, w.heap.size = g := ⟨_, rfl⟩
  rw [hg0] at hbox
  have HBS := Lib.hid (show g0 = w.heap.size from hg0.symm)
  have HW := Lib.hid b1
  have HS1 := Lib.hid hs1
  have HG := Lib.hid (show g0 < W1.heap.size by omega)
  have HFI := Lib.hid hfi
  have HBOX1 := Lib.hid hbox
  have HBW1 := Lib.hid (Nat.le_refl W1.heap.size)
  rw [hg0]
  clear hW1 hbox b1 hs1 hg0 hfi
  refine wp_region_use (w0 := _) 9 [some 4, some 5, some 6, some 7, some 8, some 9, some 10, some 11, some 12] (by kernel_rfl) (by kernel_rfl) (by kernel_rfl) (by kernel_rfl) (of_decide_eq_true (by kernel_rfl)) (by kernel_rfl) (pdFJ1 (.bool true) V1 V1 V1 W1.heap.size g0 x0 E n al bl c me you more A) (fun i k => i == 8 && (k == 3 || k == 7)) (by kernel_rfl) ?_ ?_
  · intro ix hix o w1 b ho hbel hv hstood hsize K hK0
    have hK : ∀ u w', pdFJ1 (.bool true) V1 V1 V1 W1.heap.size g0 x0 E n al bl c me you more A ix u w' → Below w1.heap.size w1 w' → K (b.put o.dst u) w' := fun u w' h hb => hK0 u w' h (fun k v _ _ _ h2 => pdFJ1_mono (.bool true) V1 V1 V1 W1.heap.size g0 x0 E n al bl c me you more A k v _ _ h2 hb) (hb.mono hbel.size)
    have hc : ix = 0 ∨ ix = 1 ∨ ix = 2 ∨ ix = 3 ∨ ix = 4 ∨ ix = 5 ∨ ix = 6 ∨ ix = 7 ∨ ix = 8 := by omega
    rcases hc with rfl | rfl | rfl | rfl | rfl | rfl | rfl | rfl | rfl
    · obtain rfl : (⟨some 4, .fieldAddr 83 (Operand.tmp 1) 0, _, _, _, _⟩ : Oper) = o := Option.some.inj ho
      refine ask_plain rfl ?_
      have e : b.eval (.tmp 1) = .pointer (some ⟨g0, 0, none⟩) := (hstood 1 (by kernel_rfl)).trans rfl
      exact wp_val (.pointer (some ⟨g0, 0, none⟩)) (by simp only [execOp, e, Sem.run_bind, field83 g0 0 (by decide), Result.andThen]; rfl) (hK _ _ rfl (Below.refl _ _))
    · obtain rfl : (⟨some 5, .load 3 (Operand.tmp 4), _, _, _, _⟩ : Oper) = o := Option.some.inj ho
      refine ask_plain rfl ?_
      have e : b.eval (.tmp 4) = .pointer (some ⟨g0, 0, none⟩) := hv 0 4 (by kernel_rfl) (by kernel_rfl) (of_decide_eq_true (by kernel_rfl))
      have hq : w1.cell? ⟨g0, 0, none⟩ = some (.int .i64 (x0.toNat : Int)) := by rw [Joins.cell_of_block ((hbel.block _ HG.out).trans HBOX1.out)]; rfl
      exact wp_val (.int .i64 (x0.toNat : Int)) (by simp only [execOp, e]; exact load3 _ _ _ hq) (hK _ _ rfl (Below.refl _ _))
    · obtain rfl : (⟨some 6, .convert 3 5 (Operand.tmp 5), _, _, _, _⟩ : Oper) = o := Option.some.inj ho
      refine ask_plain rfl ?_
      have e : b.eval (.tmp 5) = .int .i64 (x0.toNat : Int) := hv 1 5 (by kernel_rfl) (by kernel_rfl) (of_decide_eq_true (by kernel_rfl))
      exact wp_val (.int .u8 (x0.toNat : Int)) (by simp only [execOp, e, Sem.run_bind, conv3_5, Result.andThen]; rfl) (hK _ _ rfl (Below.refl _ _))
    · obtain rfl : (⟨some 7, .buildSlice 35 2 #[(0, (Operand.const (Value.int IntKind.u8 70))), (1, (Operand.tmp 6))], _, _, _, _⟩ : Oper) = o := Option.some.inj ho
      refine ask_plain rfl ?_
      have e2 : b.eval (.tmp 6) = .int .u8 (x0.toNat : Int) := hv 2 6 (by kernel_rfl) (by kernel_rfl) (of_decide_eq_true (by kernel_rfl))
      refine wp_buildSlice 35 5 2 _ rfl #[.int .u8 70, .int .u8 (x0.toNat : Int)] i5 (.int .u8 0) Try.underlying35 HI5.out HZ5.out (by rw [HS5.out]; decide) (by rw [HS5.out]; decide) (by rw [HS5.out]; simp only [List.map_toArray, List.map_cons, List.map_nil, e2]; exact HFI.out) (hK _ _ (own_two w1 W1.heap.size x0 (Nat.le_trans HBW1.out hbel.size)) (below_alloc1 _ _))
    · obtain rfl : (⟨some 8, .fieldAddr 83 (Operand.tmp 1) 1, _, _, _, _⟩ : Oper) = o := Option.some.inj ho
      refine ask_plain rfl ?_
      have e : b.eval (.tmp 1) = .pointer (some ⟨g0, 0, none⟩) := (hstood 1 (by kernel_rfl)).trans rfl
      exact wp_val (.pointer (some ⟨g0, 1, none⟩)) (by simp only [execOp, e, Sem.run_bind, field83 g0 1 (by decide), Result.andThen]; rfl) (hK _ _ rfl (Below.refl _ _))
    · obtain rfl : (⟨some 9, .load 3 (Operand.tmp 8), _, _, _, _⟩ : Oper) = o := Option.some.inj ho
      refine ask_plain rfl ?_
      have e : b.eval (.tmp 8) = .pointer (some ⟨g0, 1, none⟩) := hv 4 8 (by kernel_rfl) (by kernel_rfl) (of_decide_eq_true (by kernel_rfl))
      have hq : w1.cell? ⟨g0, 1, none⟩ = some (.int .i64 (E : Int)) := by rw [Joins.cell_of_block ((hbel.block _ HG.out).trans HBOX1.out)]; rfl
      exact wp_val (.int .i64 (E : Int)) (by simp only [execOp, e]; exact load3 _ _ _ hq) (hK _ _ rfl (Below.refl _ _))
    · obtain rfl : (⟨some 10, .convert 3 33 (Operand.tmp 9), _, _, _, _⟩ : Oper) = o := Option.some.inj ho
      refine ask_plain rfl ?_
      have e : b.eval (.tmp 9) = .int .i64 (E : Int) := hv 5 9 (by kernel_rfl) (by kernel_rfl) (of_decide_eq_true (by kernel_rfl))
      exact wp_val (.int .u64 (E : Int)) (by simp only [execOp, e, Sem.run_bind, conv3_33 E HEL.out, Result.andThen]; rfl) (hK _ _ rfl (Below.refl _ _))
    · obtain rfl : (⟨some 11, .call { callee := (Callee.value (Operand.func 105)), args := #[(Operand.tmp 10)], argTypes := #[33] }, _, _, _, _⟩ : Oper) = o := Option.some.inj ho
      refine ask_plain rfl ?_
      have e1 : b.eval (.tmp 10) = .int .u64 (E : Int) := hv 6 10 (by kernel_rfl) (by kernel_rfl) (of_decide_eq_true (by kernel_rfl))
      refine wp_call_fn 105 #[.tmp 10] #[33] rfl Try.f105 _ Try.func105 (by kernel_rfl) rfl #[.int .u64 (E : Int)] (by simp [e1]) ((CV1.out w1).mono ?_)
      rintro e w2 ⟨v2, rfl, hE2, hb2⟩
      exact ⟨_, rfl, hK _ _ hE2 hb2⟩
    · obtain rfl : (⟨some 12, .call { callee := (Callee.builtin Builtin.append), args := #[(Operand.tmp 7), (Operand.tmp 11)], argTypes := #[35, 35] }, _, _, _, _⟩ : Oper) = o := Option.some.inj ho
      refine ask_plain rfl ?_
      have hown : OwnB w1 W1.heap.size (b.eval (.tmp 7)) [70#8, x0] := hv 3 7 (by kernel_rfl) (by kernel_rfl) (of_decide_eq_true (by kernel_rfl))
      have hsrc : EqN w1 V1 (b.eval (.tmp 11)) := hv 7 11 (by kernel_rfl) (by kernel_rfl) (of_decide_eq_true (by kernel_rfl))
      refine wp_append_B (.tmp 7) (.tmp 11) rfl W1.heap.size [70#8, x0] V1 hown hsrc (by have := L1.out; simp; omega) (Nat.le_trans HBW1.out hbel.size) ?_
      intro v' w' hown' hb'
      refine hK0 _ _ hown' (fun k v hk hnd hgo h => ?_) hb'
      match k, h with
      | 0, h => exact h
      | 1, h => exact h
      | 2, h => exact h
      | 3, h => cases hgo
      | 4, h => exact h
      | 5, h => exact h
      | 6, h => exact h
      | 7, h => cases hgo
      | 8, h => exact absurd rfl hk
      | _ + 9, _ => trivial
  · intro vs wa1 hp hbb
    have ho : OwnB wa1 W1.heap.size (vs 8) (([70#8, x0] ++ V1)) := hp 8 (by decide) (by decide)
    change wpList _ _ _ [_] _ _
    simp only [putD, Act.put, List.setIfInBounds_toArray, List.set_cons_zero, List.set_cons_succ]
    obtain ⟨r1, hr1⟩ : ∃ r, vs 8 = r := ⟨_, rfl⟩
    rw [hr1] at ho ⊢
    generalize vs 0 = y1_0, vs 1 = y1_1, vs 2 = y1_2, vs 3 = y1_3, vs 4 = y1_4, vs 5 = y1_5, vs 6 = y1_6, vs 7 = y1_7
    obtain ⟨Q1, hQ1⟩ : ∃ Q, (([70#8, x0] ++ V1)) = Q := ⟨_, rfl⟩
    rw [hQ1] at ho
    have HO1 := Lib.hid ho
    have HQ1 := Lib.hid hQ1
    have HQL1 := Lib.hid (show Q1.length ≤ 100 by rw [← hQ1, List.length_append]; have := L1.out; simp; omega)
    have HWA1 := Lib.hid hbb
    have HBW2 := Lib.hid (show W1.heap.size ≤ wa1.heap.size from HWA1.out.size)
    have HBOX2 := Lib.hid ((HWA1.out.block _ HG.out).trans HBOX1.out)
    clear ho hQ1 hp hbb hr1
    go_upto_region 2 with (fail)
    refine wp_region_came (w0 := _) 9 [some 13, some 14, some 15, some 16, some 17, some 18, some 19, some 20, some 21] (by kernel_rfl) (by kernel_rfl) (by kernel_rfl) (by kernel_rfl) (of_decide_eq_true (by kernel_rfl)) (by kernel_rfl) (fun Lc w' => (Lc 4 = false → Below wa1.heap.size wa1 w') ∧ Below W1.heap.size wa1 w' ∧ (Lc 4 = true → Lc 0 = true)) ⟨fun _ => (Below.refl _ _).drew, (Below.refl _ _).drew, fun h => by cases h⟩ (pdFJ2 r1 Q1 E1 E2 W1.heap.size g0 x0 E n al bl c me you more A) (fun i k => i == 4 && (k == 0 || k == 3) || i == 8 && (k == 0 || k == 3 || k == 4 || k == 7)) (by kernel_rfl) ?_ ?_
    · intro ix hix o w1 b Lc ho hL hneed hbel hv hstood hsize K hK0
      have hK1 : ix ≠ 4 → ∀ u w', pdFJ2 r1 Q1 E1 E2 W1.heap.size g0 x0 E n al bl c me you more A ix u w' → Below w1.heap.size w1 w' → K (b.put o.dst u) w' := fun hx u w' h hb => hK0 u w' h (fun k v _ _ _ h2 => pdFJ2_mono r1 Q1 E1 E2 W1.heap.size g0 x0 E n al bl c me you more A k v _ _ h2 hb) ⟨fun h1 => by rw [upd_other Lc true (Ne.symm hx)] at h1; exact (hbel.1 h1).trans (hb.mono (hbel.1 h1).size), hbel.2.1.trans (hb.mono (Nat.le_trans HBW2.out hbel.2.1.size)), fun h1 => by rw [upd_other Lc true (Ne.symm hx)] at h1; exact upd_keep (hbel.2.2 h1)⟩
      have hc : ix = 0 ∨ ix = 1 ∨ ix = 2 ∨ ix = 3 ∨ ix = 4 ∨ ix = 5 ∨ ix = 6 ∨ ix = 7 ∨ ix = 8 := by omega
      rcases hc with rfl | rfl | rfl | rfl | rfl | rfl | rfl | rfl | rfl
      · obtain rfl : (⟨some 13, .move (Operand.tmp 3), _, _, _, _⟩ : Oper) = o := Option.some.inj ho
        have hK := hK1 (by decide)
        refine ask_plain rfl ?_
        have h1 : Lc 4 = false := by
                cases hq : Lc 4 with
                | false => rfl
                | true => have := hbel.2.2 hq; rw [hL] at this; cases this
        have e : b.eval (.tmp 3) = r1 := (hstood 3 (by kernel_rfl)).trans rfl
        exact wp_val _ rfl (hK _ _ ⟨e, HO1.out.below (hbel.1 h1)⟩ (Below.refl _ _))
      · obtain rfl : (⟨some 14, .fieldAddr 83 (Operand.tmp 1) 2, _, _, _, _⟩ : Oper) = o := Option.some.inj ho
        have hK := hK1 (by decide)
        refine ask_plain rfl ?_
        have e : b.eval (.tmp 1) = .pointer (some ⟨g0, 0, none⟩) := (hstood 1 (by kernel_rfl)).trans rfl
        exact wp_val (.pointer (some ⟨g0, 2, none⟩)) (by simp only [execOp, e, Sem.run_bind, field83 g0 2 (by decide), Result.andThen]; rfl) (hK _ _ rfl (Below.refl _ _))
      · obtain rfl : (⟨some 15, .load 33 (Operand.tmp 14), _, _, _, _⟩ : Oper) = o := Option.some.inj ho
        have hK := hK1 (by decide)
        refine ask_plain rfl ?_
        have e : b.eval (.tmp 14) = .pointer (some ⟨g0, 2, none⟩) := hv 1 14 (by kernel_rfl) (by kernel_rfl) (of_decide_eq_true (by kernel_rfl))
        have hq : w1.cell? ⟨g0, 2, none⟩ = some (.int .u64 (me.toNat : Int)) := by rw [Joins.cell_of_block ((hbel.2.1.block _ HG.out).trans HBOX2.out)]; rfl
        exact wp_val (.int .u64 (me.toNat : Int)) (by simp only [execOp, e]; exact load33 _ _ _ hq) (hK _ _ rfl (Below.refl _ _))
      · obtain rfl : (⟨some 16, .call { callee := (Callee.value (Operand.func 106)), args := #[(Operand.tmp 15)], argTypes := #[33] }, _, _, _, _⟩ : Oper) = o := Option.some.inj ho
        have hK := hK1 (by decide)
        refine ask_plain rfl ?_
        have e1 : b.eval (.tmp 15) = .int .u64 (me.toNat : Int) := hv 2 15 (by kernel_rfl) (by kernel_rfl) (of_decide_eq_true (by kernel_rfl))
        refine wp_call_fn 106 #[.tmp 15] #[33] rfl Try.f106 _ Try.func106 (by kernel_rfl) rfl #[.int .u64 (me.toNat : Int)] (by simp [e1]) ((CE1.out w1).mono ?_)
        rintro e w2 ⟨v2, rfl, hE2, hb2⟩
        exact ⟨_, rfl, hK _ _ hE2 hb2⟩
      · obtain rfl : (⟨some 17, .call { callee := (Callee.builtin Builtin.append), args := #[(Operand.tmp 13), (Operand.tmp 16)], argTypes := #[35, 35] }, _, _, _, _⟩ : Oper) = o := Option.some.inj ho
        refine ask_plain rfl ?_
        obtain ⟨e1, hown0⟩ : b.eval (.tmp 13) = r1 ∧ OwnB w1 W1.heap.size r1 Q1 := hv 0 13 (by kernel_rfl) (by kernel_rfl) (of_decide_eq_true (by kernel_rfl))
        have hown : OwnB w1 W1.heap.size (b.eval (.tmp 13)) Q1 := by rw [e1]; exact hown0
        have hsrc : EqN w1 E1 (b.eval (.tmp 16)) := hv 3 16 (by kernel_rfl) (by kernel_rfl) (of_decide_eq_true (by kernel_rfl))
        refine wp_append_B (.tmp 13) (.tmp 16) rfl W1.heap.size Q1 E1 hown hsrc (by have := L2.out; have := HQL1.out; omega) (Nat.le_trans HBW2.out hbel.2.1.size) ?_
        intro v' w' hown' hb'
        have h0 : Lc 0 = true := hneed 0 (by kernel_rfl)
        refine hK0 _ _ hown' (fun k v hk hnd hgo h => ?_) ⟨fun h => (by rw [upd_same] at h; cases h), hbel.2.1.trans hb', fun _ => upd_keep h0⟩
        match k, h with
        | 0, h => cases hgo
        | 1, h => exact h
        | 2, h => exact h
        | 3, h => cases hgo
        | 4, h => exact absurd rfl hk
        | 5, h => exact h
        | 6, h => exact h
        | 7, h => exact Bool.noConfusion ((show needsB _ 7 4 = true by kernel_rfl).symm.trans hnd)
        | 8, h => exact Bool.noConfusion ((show needsB _ 8 4 = true by kernel_rfl).symm.trans hnd)
        | _ + 9, _ => trivial
      · obtain rfl : (⟨some 18, .fieldAddr 83 (Operand.tmp 1) 3, _, _, _, _⟩ : Oper) = o := Option.some.inj ho
        have hK := hK1 (by decide)
        refine ask_plain rfl ?_
        have e : b.eval (.tmp 1) = .pointer (some ⟨g0, 0, none⟩) := (hstood 1 (by kernel_rfl)).trans rfl
        exact wp_val (.pointer (some ⟨g0, 3, none⟩)) (by simp only [execOp, e, Sem.run_bind, field83 g0 3 (by decide), Result.andThen]; rfl) (hK _ _ rfl (Below.refl _ _))
      · obtain rfl : (⟨some 19, .load 33 (Operand.tmp 18), _, _, _, _⟩ : Oper) = o := Option.some.inj ho
        have hK := hK1 (by decide)
        refine ask_plain rfl ?_
        have e : b.eval (.tmp 18) = .pointer (some ⟨g0, 3, none⟩) := hv 5 18 (by kernel_rfl) (by kernel_rfl) (of_decide_eq_true (by kernel_rfl))
        have hq : w1.cell? ⟨g0, 3, none⟩ = some (.int .u64 (you.toNat : Int)) := by rw [Joins.cell_of_block ((hbel.2.1.block _ HG.out).trans HBOX2.out)]; rfl
        exact wp_val (.int .u64 (you.toNat : Int)) (by simp only [execOp, e]; exact load33 _ _ _ hq) (hK _ _ rfl (Below.refl _ _))
      · obtain rfl : (⟨some 20, .call { callee := (Callee.value (Operand.func 106)), args := #[(Operand.tmp 19)], argTypes := #[33] }, _, _, _, _⟩ : Oper) = o := Option.some.inj ho
        have hK := hK1 (by decide)
        refine ask_plain rfl ?_
        have e1 : b.eval (.tmp 19) = .int .u64 (you.toNat : Int) := hv 6 19 (by kernel_rfl) (by kernel_rfl) (of_decide_eq_true (by kernel_rfl))
        refine wp_call_fn 106 #[.tmp 19] #[33] rfl Try.f106 _ Try.func106 (by kernel_rfl) rfl #[.int .u64 (you.toNat : Int)] (by simp [e1]) ((CE2.out w1).mono ?_)
        rintro e w2 ⟨v2, rfl, hE2, hb2⟩
        exact ⟨_, rfl, hK _ _ hE2 hb2⟩
      · obtain rfl : (⟨some 21, .call { callee := (Callee.builtin Builtin.append), args := #[(Operand.tmp 17), (Operand.tmp 20)], argTypes := #[35, 35] }, _, _, _, _⟩ : Oper) = o := Option.some.inj ho
        have hK := hK1 (by decide)
        refine ask_plain rfl ?_
        have hown : OwnB w1 W1.heap.size (b.eval (.tmp 17)) (Q1 ++ E1) := hv 4 17 (by kernel_rfl) (by kernel_rfl) (of_decide_eq_true (by kernel_rfl))
        have hsrc : EqN w1 E2 (b.eval (.tmp 20)) := hv 7 20 (by kernel_rfl) (by kernel_rfl) (of_decide_eq_true (by kernel_rfl))
        refine wp_append_B (.tmp 17) (.tmp 20) rfl W1.heap.size (Q1 ++ E1) E2 hown hsrc (by have := L2.out; have := L3.out; have := HQL1.out; rw [List.length_append]; omega) (Nat.le_trans HBW2.out hbel.2.1.size) ?_
        intro v' w' hown' hb'
        have ha : Lc 4 = true := hneed 4 (by kernel_rfl)
        refine hK0 _ _ hown' (fun k v hk hnd hgo h => ?_) ⟨fun h => (by rw [upd_other Lc true (by decide)] at h; rw [ha] at h; cases h), hbel.2.1.trans hb', fun _ => upd_keep (hbel.2.2 ha)⟩
        match k, h with
        | 0, h => cases hgo
        | 1, h => exact h
        | 2, h => exact h
        | 3, h => cases hgo
        | 4, h => cases hgo
        | 5, h => exact h
        | 6, h => exact h
        | 7, h => cases hgo
        | 8, h => exact absurd rfl hk
        | _ + 9, _ => trivial
    · intro vs wa2 hp ⟨_, _, hbb, _⟩
      have ho : OwnB wa2 W1.heap.size (vs 8) ((Q1 ++ E1) ++ E2) := hp 8 (by decide) (by decide)
      change wpList _ _ _ [_] _ _
      simp only [putD, Act.put, List.setIfInBounds_toArray, List.set_cons_zero, List.set_cons_succ]
      obtain ⟨r2, hr2⟩ : ∃ r, vs 8 = r := ⟨_, rfl⟩
      rw [hr2] at ho ⊢
      generalize vs 0 = y2_0, vs 1 = y2_1, vs 2 = y2_2, vs 3 = y2_3, vs 4 = y2_4, vs 5 = y2_5, vs 6 = y2_6, vs 7 = y2_7
      obtain ⟨Q2, hQ2⟩ : ∃ Q, ((Q1 ++ E1) ++ E2) = Q := ⟨_, rfl⟩
      rw [hQ2] at ho
      have HO2 := Lib.hid ho
      have HQ2 := Lib.hid hQ2
      have HQL2 := Lib.hid (show Q2.length ≤ 200 by rw [← hQ2, List.length_append, List.length_append]; have := L2.out; have := L3.out; have := HQL1.out; omega)
      have HWA2 := Lib.hid (HWA1.out.trans hbb)
      have HBW3 := Lib.hid (show W1.heap.size ≤ wa2.heap.size from HWA2.out.size)
      have HBOX3 := Lib.hid ((HWA2.out.block _ HG.out).trans HBOX1.out)
      clear ho hQ2 hp hbb hr2 HO1
      go_upto_region 3 with (fail)
      refine wp_region_came (w0 := _) 11 [some 22, some 23, some 24, some 25, some 26, some 27, some 28, some 29, some 30, some 31, some 32] (by kernel_rfl) (by kernel_rfl) (by kernel_rfl) (by kernel_rfl) (of_decide_eq_true (by kernel_rfl)) (by kernel_rfl) (fun Lc w' => (Lc 5 = false → Below wa2.heap.size wa2 w') ∧ Below W1.heap.size wa2 w' ∧ (Lc 5 = true → Lc 0 = true)) ⟨fun _ => (Below.refl _ _).drew, (Below.refl _ _).drew, fun h => by cases h⟩ (pdFJ3 r2 Q2 V2 V3 W1.heap.size g0 x0 E n al bl c me you more A) (fun i k => i == 5 && (k == 0 || k == 4) || i == 10 && (k == 0 || k == 4 || k == 5 || k == 9)) (by kernel_rfl) ?_ ?_
      · intro ix hix o w1 b Lc ho hL hneed hbel hv hstood hsize K hK0
        have hK1 : ix ≠ 5 → ∀ u w', pdFJ3 r2 Q2 V2 V3 W1.heap.size g0 x0 E n al bl c me you more A ix u w' → Below w1.heap.size w1 w' → K (b.put o.dst u) w' := fun hx u w' h hb => hK0 u w' h (fun k v _ _ _ h2 => pdFJ3_mono r2 Q2 V2 V3 W1.heap.size g0 x0 E n al bl c me you more A k v _ _ h2 hb) ⟨fun h1 => by rw [upd_other Lc true (Ne.symm hx)] at h1; exact (hbel.1 h1).trans (hb.mono (hbel.1 h1).size), hbel.2.1.trans (hb.mono (Nat.le_trans HBW3.out hbel.2.1.size)), fun h1 => by rw [upd_other Lc true (Ne.symm hx)] at h1; exact upd_keep (hbel.2.2 h1)⟩
        have hc : ix = 0 ∨ ix = 1 ∨ ix = 2 ∨ ix = 3 ∨ ix = 4 ∨ ix = 5 ∨ ix = 6 ∨ ix = 7 ∨ ix = 8 ∨ ix = 9 ∨ ix = 10 := by omega
        rcases hc with rfl | rfl | rfl | rfl | rfl | rfl | rfl | rfl | rfl | rfl | rfl
        · obtain rfl : (⟨some 22, .move (Operand.tmp 3), _, _, _, _⟩ : Oper) = o := Option.some.inj ho
          have hK := hK1 (by decide)
          refine ask_plain rfl ?_
          have h1 : Lc 5 = false := by
                  cases hq : Lc 5 with
                  | false => rfl
                  | true => have := hbel.2.2 hq; rw [hL] at this; cases this
          have e : b.eval (.tmp 3) = r2 := (hstood 3 (by kernel_rfl)).trans rfl
          exact wp_val _ rfl (hK _ _ ⟨e, HO2.out.below (hbel.1 h1)⟩ (Below.refl _ _))
        · obtain rfl : (⟨some 23, .fieldAddr 83 (Operand.tmp 1) 4, _, _, _, _⟩ : Oper) = o := Option.some.inj ho
          have hK := hK1 (by decide)
          refine ask_plain rfl ?_
          have e : b.eval (.tmp 1) = .pointer (some ⟨g0, 0, none⟩) := (hstood 1 (by kernel_rfl)).trans rfl
          exact wp_val (.pointer (some ⟨g0, 4, none⟩)) (by simp only [execOp, e, Sem.run_bind, field83 g0 4 (by decide), Result.andThen]; rfl) (hK _ _ rfl (Below.refl _ _))
        · obtain rfl : (⟨some 24, .load 3 (Operand.tmp 23), _, _, _, _⟩ : Oper) = o := Option.some.inj ho
          have hK := hK1 (by decide)
          refine ask_plain rfl ?_
          have e : b.eval (.tmp 23) = .pointer (some ⟨g0, 4, none⟩) := hv 1 23 (by kernel_rfl) (by kernel_rfl) (of_decide_eq_true (by kernel_rfl))
          have hq : w1.cell? ⟨g0, 4, none⟩ = some (.int .i64 (n : Int)) := by rw [Joins.cell_of_block ((hbel.2.1.block _ HG.out).trans HBOX3.out)]; rfl
          exact wp_val (.int .i64 (n : Int)) (by simp only [execOp, e]; exact load3 _ _ _ hq) (hK _ _ rfl (Below.refl _ _))
        · obtain rfl : (⟨some 25, .convert 3 33 (Operand.tmp 24), _, _, _, _⟩ : Oper) = o := Option.some.inj ho
          have hK := hK1 (by decide)
          refine ask_plain rfl ?_
          have e : b.eval (.tmp 24) = .int .i64 (n : Int) := hv 2 24 (by kernel_rfl) (by kernel_rfl) (of_decide_eq_true (by kernel_rfl))
          exact wp_val (.int .u64 (n : Int)) (by simp only [execOp, e, Sem.run_bind, conv3_33 n HNL.out, Result.andThen]; rfl) (hK _ _ rfl (Below.refl _ _))
        · obtain rfl : (⟨some 26, .call { callee := (Callee.value (Operand.func 105)), args := #[(Operand.tmp 25)], argTypes := #[33] }, _, _, _, _⟩ : Oper) = o := Option.some.inj ho
          have hK := hK1 (by decide)
          refine ask_plain rfl ?_
          have e1 : b.eval (.tmp 25) = .int .u64 (n : Int) := hv 3 25 (by kernel_rfl) (by kernel_rfl) (of_decide_eq_true (by kernel_rfl))
          refine wp_call_fn 105 #[.tmp 25] #[33] rfl Try.f105 _ Try.func105 (by kernel_rfl) rfl #[.int .u64 (n : Int)] (by simp [e1]) ((CV2.out w1).mono ?_)
          rintro e w2 ⟨v2, rfl, hE2, hb2⟩
          exact ⟨_, rfl, hK _ _ hE2 hb2⟩
        · obtain rfl : (⟨some 27, .call { callee := (Callee.builtin Builtin.append), args := #[(Operand.tmp 22), (Operand.tmp 26)], argTypes := #[35, 35] }, _, _, _, _⟩ : Oper) = o := Option.some.inj ho
          refine ask_plain rfl ?_
          obtain ⟨e1, hown0⟩ : b.eval (.tmp 22) = r2 ∧ OwnB w1 W1.heap.size r2 Q2 := hv 0 22 (by kernel_rfl) (by kernel_rfl) (of_decide_eq_true (by kernel_rfl))
          have hown : OwnB w1 W1.heap.size (b.eval (.tmp 22)) Q2 := by rw [e1]; exact hown0
          have hsrc : EqN w1 V2 (b.eval (.tmp 26)) := hv 4 26 (by kernel_rfl) (by kernel_rfl) (of_decide_eq_true (by kernel_rfl))
          refine wp_append_B (.tmp 22) (.tmp 26) rfl W1.heap.size Q2 V2 hown hsrc (by have := L4.out; have := HQL2.out; omega) (Nat.le_trans HBW3.out hbel.2.1.size) ?_
          intro v' w' hown' hb'
          have h0 : Lc 0 = true := hneed 0 (by kernel_rfl)
          refine hK0 _ _ hown' (fun k v hk hnd hgo h => ?_) ⟨fun h => (by rw [upd_same] at h; cases h), hbel.2.1.trans hb', fun _ => upd_keep h0⟩
          match k, h with
          | 0, h => cases hgo
          | 1, h => exact h
          | 2, h => exact h
          | 3, h => exact h
          | 4, h => cases hgo
          | 5, h => exact absurd rfl hk
          | 6, h => exact h
          | 7, h => exact h
          | 8, h => exact h
          | 9, h => exact Bool.noConfusion ((show needsB _ 9 5 = true by kernel_rfl).symm.trans hnd)
          | 10, h => exact Bool.noConfusion ((show needsB _ 10 5 = true by kernel_rfl).symm.trans hnd)
          | _ + 11, _ => trivial
        · obtain rfl : (⟨some 28, .fieldAddr 83 (Operand.tmp 1) 6, _, _, _, _⟩ : Oper) = o := Option.some.inj ho
          have hK := hK1 (by decide)
          refine ask_plain rfl ?_
          have e : b.eval (.tmp 1) = .pointer (some ⟨g0, 0, none⟩) := (hstood 1 (by kernel_rfl)).trans rfl
          exact wp_val (.pointer (some ⟨g0, 6, none⟩)) (by simp only [execOp, e, Sem.run_bind, field83 g0 6 (by decide), Result.andThen]; rfl) (hK _ _ rfl (Below.refl _ _))
        · obtain rfl : (⟨some 29, .load 3 (Operand.tmp 28), _, _, _, _⟩ : Oper) = o := Option.some.inj ho
          have hK := hK1 (by decide)
          refine ask_plain rfl ?_
          have e : b.eval (.tmp 28) = .pointer (some ⟨g0, 6, none⟩) := hv 6 28 (by kernel_rfl) (by kernel_rfl) (of_decide_eq_true (by kernel_rfl))
          have hq : w1.cell? ⟨g0, 6, none⟩ = some (.int .i64 (al : Int)) := by rw [Joins.cell_of_block ((hbel.2.1.block _ HG.out).trans HBOX3.out)]; rfl
          exact wp_val (.int .i64 (al : Int)) (by simp only [execOp, e]; exact load3 _ _ _ hq) (hK _ _ rfl (Below.refl _ _))
        · obtain rfl : (⟨some 30, .convert 3 33 (Operand.tmp 29), _, _, _, _⟩ : Oper) = o := Option.some.inj ho
          have hK := hK1 (by decide)
          refine ask_plain rfl ?_
          have e : b.eval (.tmp 29) = .int .i64 (al : Int) := hv 7 29 (by kernel_rfl) (by kernel_rfl) (of_decide_eq_true (by kernel_rfl))
          exact wp_val (.int .u64 (al : Int)) (by simp only [execOp, e, Sem.run_bind, conv3_33 al HAL.out, Result.andThen]; rfl) (hK _ _ rfl (Below.refl _ _))
        · obtain rfl : (⟨some 31, .call { callee := (Callee.value (Operand.func 105)), args := #[(Operand.tmp 30)], argTypes := #[33] }, _, _, _, _⟩ : Oper) = o := Option.some.inj ho
          have hK := hK1 (by decide)
          refine ask_plain rfl ?_
          have e1 : b.eval (.tmp 30) = .int .u64 (al : Int) := hv 8 30 (by kernel_rfl) (by kernel_rfl) (of_decide_eq_true (by kernel_rfl))
          refine wp_call_fn 105 #[.tmp 30] #[33] rfl Try.f105 _ Try.func105 (by kernel_rfl) rfl #[.int .u64 (al : Int)] (by simp [e1]) ((CV3.out w1).mono ?_)
          rintro e w2 ⟨v2, rfl, hE2, hb2⟩
          exact ⟨_, rfl, hK _ _ hE2 hb2⟩
        · obtain rfl : (⟨some 32, .call { callee := (Callee.builtin Builtin.append), args := #[(Operand.tmp 27), (Operand.tmp 31)], argTypes := #[35, 35] }, _, _, _, _⟩ : Oper) = o := Option.some.inj ho
          have hK := hK1 (by decide)
          refine ask_plain rfl ?_
          have hown : OwnB w1 W1.heap.size (b.eval (.tmp 27)) (Q2 ++ V2) := hv 5 27 (by kernel_rfl) (by kernel_rfl) (of_decide_eq_true (by kernel_rfl))
          have hsrc : EqN w1 V3 (b.eval (.tmp 31)) := hv 9 31 (by kernel_rfl) (by kernel_rfl) (of_decide_eq_true (by kernel_rfl))
          refine wp_append_B (.tmp 27) (.tmp 31) rfl W1.heap.size (Q2 ++ V2) V3 hown hsrc (by have := L4.out; have := L5.out; have := HQL2.out; rw [List.length_append]; omega) (Nat.le_trans HBW3.out hbel.2.1.size) ?_
          intro v' w' hown' hb'
          have ha : Lc 5 = true := hneed 5 (by kernel_rfl)
          refine hK0 _ _ hown' (fun k v hk hnd hgo h => ?_) ⟨fun h => (by rw [upd_other Lc true (by decide)] at h; rw [ha] at h; cases h), hbel.2.1.trans hb', fun _ => upd_keep (hbel.2.2 ha)⟩
          match k, h with
          | 0, h => cases hgo
          | 1, h => exact h
          | 2, h => exact h
          | 3, h => exact h
          | 4, h => cases hgo
          | 5, h => cases hgo
          | 6, h => exact h
          | 7, h => exact h
          | 8, h => exact h
          | 9, h => cases hgo
          | 10, h => exact absurd rfl hk
          | _ + 11, _ => trivial
      · intro vs wa3 hp ⟨_, _, hbb, _⟩
        have ho : OwnB wa3 W1.heap.size (vs 10) ((Q2 ++ V2) ++ V3) := hp 10 (by decide) (by decide)
        change wpList _ _ _ [_] _ _
        simp only [putD, Act.put, List.setIfInBounds_toArray, List.set_cons_zero, List.set_cons_succ]
        obtain ⟨r3, hr3⟩ : ∃ r, vs 10 = r := ⟨_, rfl⟩
        rw [hr3] at ho ⊢
        generalize vs 0 = y3_0, vs 1 = y3_1, vs 2 = y3_2, vs 3 = y3_3, vs 4 = y3_4, vs 5 = y3_5, vs 6 = y3_6, vs 7 = y3_7, vs 8 = y3_8, vs 9 = y3_9
        obtain ⟨Q3, hQ3⟩ : ∃ Q, ((Q2 ++ V2) ++ V3) = Q := ⟨_, rfl⟩
        rw [hQ3] at ho
        have HO3 := Lib.hid ho
        have HQ3 := Lib.hid hQ3
        have HQL3 := Lib.hid (show Q3.length ≤ 300 by rw [← hQ3, List.length_append, List.length_append]; have := L4.out; have := L5.out; have := HQL2.out; omega)
        have HWA3 := Lib.hid (HWA2.out.trans hbb)
        have HBW4 := Lib.hid (show W1.heap.size ≤ wa3.heap.size from HWA3.out.size)
        have HBOX4 := Lib.hid ((HWA3.out.block _ HG.out).trans HBOX1.out)
        clear ho hQ3 hp hbb hr3 HO2
        go_upto_region 4 with (fail)
        refine wp_region_came (w0 := _) 11 [some 33, some 34, some 35, some 36, some 37, some 38, some 39, some 40, some 41, some 42, some 43] (by kernel_rfl) (by kernel_rfl) (by kernel_rfl) (by kernel_rfl) (of_decide_eq_true (by kernel_rfl)) (by kernel_rfl) (fun Lc w' => (Lc 4 = false → Below wa3.heap.size wa3 w') ∧ Below W1.heap.size wa3 w' ∧ (Lc 4 = true → Lc 0 = true)) ⟨fun _ => (Below.refl _ _).drew, (Below.refl _ _).drew, fun h => by cases h⟩ (pdFJ4 r3 Q3 E3 V4 W1.heap.size g0 x0 E n al bl c me you more A) (fun i k => i == 4 && (k == 0 || k == 3) || i == 10 && (k == 0 || k == 3 || k == 4 || k == 9)) (by kernel_rfl) ?_ ?_
        · intro ix hix o w1 b Lc ho hL hneed hbel hv hstood hsize K hK0
          have hK1 : ix ≠ 4 → ∀ u w', pdFJ4 r3 Q3 E3 V4 W1.heap.size g0 x0 E n al bl c me you more A ix u w' → Below w1.heap.size w1 w' → K (b.put o.dst u) w' := fun hx u w' h hb => hK0 u w' h (fun k v _ _ _ h2 => pdFJ4_mono r3 Q3 E3 V4 W1.heap.size g0 x0 E n al bl c me you more A k v _ _ h2 hb) ⟨fun h1 => by rw [upd_other Lc true (Ne.symm hx)] at h1; exact (hbel.1 h1).trans (hb.mono (hbel.1 h1).size), hbel.2.1.trans (hb.mono (Nat.le_trans HBW4.out hbel.2.1.size)), fun h1 => by rw [upd_other Lc true (Ne.symm hx)] at h1; exact upd_keep (hbel.2.2 h1)⟩
          have hc : ix = 0 ∨ ix = 1 ∨ ix = 2 ∨ ix = 3 ∨ ix = 4 ∨ ix = 5 ∨ ix = 6 ∨ ix = 7 ∨ ix = 8 ∨ ix = 9 ∨ ix = 10 := by omega
          rcases hc with rfl | rfl | rfl | rfl | rfl | rfl | rfl | rfl | rfl | rfl | rfl
          · obtain rfl : (⟨some 33, .move (Operand.tmp 3), _, _, _, _⟩ : Oper) = o := Option.some.inj ho
            have hK := hK1 (by decide)
            refine ask_plain rfl ?_
            have h1 : Lc 4 = false := by
                    cases hq : Lc 4 with
                    | false => rfl
                    | true => have := hbel.2.2 hq; rw [hL] at this; cases this
            have e : b.eval (.tmp 3) = r3 := (hstood 3 (by kernel_rfl)).trans rfl
            exact wp_val _ rfl (hK _ _ ⟨e, HO3.out.below (hbel.1 h1)⟩ (Below.refl _ _))
          · obtain rfl : (⟨some 34, .fieldAddr 83 (Operand.tmp 1) 7, _, _, _, _⟩ : Oper) = o := Option.some.inj ho
            have hK := hK1 (by decide)
            refine ask_plain rfl ?_
            have e : b.eval (.tmp 1) = .pointer (some ⟨g0, 0, none⟩) := (hstood 1 (by kernel_rfl)).trans rfl
            exact wp_val (.pointer (some ⟨g0, 7, none⟩)) (by simp only [execOp, e, Sem.run_bind, field83 g0 7 (by decide), Result.andThen]; rfl) (hK _ _ rfl (Below.refl _ _))
          · obtain rfl : (⟨some 35, .load 33 (Operand.tmp 34), _, _, _, _⟩ : Oper) = o := Option.some.inj ho
            have hK := hK1 (by decide)
            refine ask_plain rfl ?_
            have e : b.eval (.tmp 34) = .pointer (some ⟨g0, 7, none⟩) := hv 1 34 (by kernel_rfl) (by kernel_rfl) (of_decide_eq_true (by kernel_rfl))
            have hq : w1.cell? ⟨g0, 7, none⟩ = some (.int .u64 (more.toNat : Int)) := by rw [Joins.cell_of_block ((hbel.2.1.block _ HG.out).trans HBOX4.out)]; rfl
            exact wp_val (.int .u64 (more.toNat : Int)) (by simp only [execOp, e]; exact load33 _ _ _ hq) (hK _ _ rfl (Below.refl _ _))
          · obtain rfl : (⟨some 36, .call { callee := (Callee.value (Operand.func 106)), args := #[(Operand.tmp 35)], argTypes := #[33] }, _, _, _, _⟩ : Oper) = o := Option.some.inj ho
            have hK := hK1 (by decide)
            refine ask_plain rfl ?_
            have e1 : b.eval (.tmp 35) = .int .u64 (more.toNat : Int) := hv 2 35 (by kernel_rfl) (by kernel_rfl) (of_decide_eq_true (by kernel_rfl))
            refine wp_call_fn 106 #[.tmp 35] #[33] rfl Try.f106 _ Try.func106 (by kernel_rfl) rfl #[.int .u64 (more.toNat : Int)] (by simp [e1]) ((CE3.out w1).mono ?_)
            rintro e w2 ⟨v2, rfl, hE2, hb2⟩
            exact ⟨_, rfl, hK _ _ hE2 hb2⟩
          · obtain rfl : (⟨some 37, .call { callee := (Callee.builtin Builtin.append), args := #[(Operand.tmp 33), (Operand.tmp 36)], argTypes := #[35, 35] }, _, _, _, _⟩ : Oper) = o := Option.some.inj ho
            refine ask_plain rfl ?_
            obtain ⟨e1, hown0⟩ : b.eval (.tmp 33) = r3 ∧ OwnB w1 W1.heap.size r3 Q3 := hv 0 33 (by kernel_rfl) (by kernel_rfl) (of_decide_eq_true (by kernel_rfl))
            have hown : OwnB w1 W1.heap.size (b.eval (.tmp 33)) Q3 := by rw [e1]; exact hown0
            have hsrc : EqN w1 E3 (b.eval (.tmp 36)) := hv 3 36 (by kernel_rfl) (by kernel_rfl) (of_decide_eq_true (by kernel_rfl))
            refine wp_append_B (.tmp 33) (.tmp 36) rfl W1.heap.size Q3 E3 hown hsrc (by have := L6.out; have := HQL3.out; omega) (Nat.le_trans HBW4.out hbel.2.1.size) ?_
            intro v' w' hown' hb'
            have h0 : Lc 0 = true := hneed 0 (by kernel_rfl)
            refine hK0 _ _ hown' (fun k v hk hnd hgo h => ?_) ⟨fun h => (by rw [upd_same] at h; cases h), hbel.2.1.trans hb', fun _ => upd_keep h0⟩
            match k, h with
            | 0, h => cases hgo
            | 1, h => exact h
            | 2, h => exact h
            | 3, h => cases hgo
            | 4, h => exact absurd rfl hk
            | 5, h => exact h
            | 6, h => exact h
            | 7, h => exact h
            | 8, h => exact h
            | 9, h => exact Bool.noConfusion ((show needsB _ 9 4 = true by kernel_rfl).symm.trans hnd)
            | 10, h => exact Bool.noConfusion ((show needsB _ 10 4 = true by kernel_rfl).symm.trans hnd)
            | _ + 11, _ => trivial
          · obtain rfl : (⟨some 38, .fieldAddr 83 (Operand.tmp 1) 5, _, _, _, _⟩ : Oper) = o := Option.some.inj ho
            have hK := hK1 (by decide)
            refine ask_plain rfl ?_
            have e : b.eval (.tmp 1) = .pointer (some ⟨g0, 0, none⟩) := (hstood 1 (by kernel_rfl)).trans rfl
            exact wp_val (.pointer (some ⟨g0, 5, none⟩)) (by simp only [execOp, e, Sem.run_bind, field83 g0 5 (by decide), Result.andThen]; rfl) (hK _ _ rfl (Below.refl _ _))
          · obtain rfl : (⟨some 39, .load 35 (Operand.tmp 38), _, _, _, _⟩ : Oper) = o := Option.some.inj ho
            have hK := hK1 (by decide)
            refine ask_plain rfl ?_
            have e : b.eval (.tmp 38) = .pointer (some ⟨g0, 5, none⟩) := hv 5 38 (by kernel_rfl) (by kernel_rfl) (of_decide_eq_true (by kernel_rfl))
            have hq : w1.cell? ⟨g0, 5, none⟩ = some (.slice A bl c) := by rw [Joins.cell_of_block ((hbel.2.1.block _ HG.out).trans HBOX4.out)]; rfl
            exact wp_val (.slice A bl c) (by simp only [execOp, e]; exact load35 _ _ _ _ _ hq) (hK _ _ rfl (Below.refl _ _))
          · obtain rfl : (⟨some 40, .call { callee := (Callee.builtin Builtin.len), args := #[(Operand.tmp 39)], argTypes := #[35] }, _, _, _, _⟩ : Oper) = o := Option.some.inj ho
            have hK := hK1 (by decide)
            refine ask_plain rfl ?_
            have e : b.eval (.tmp 39) = .slice A bl c := hv 6 39 (by kernel_rfl) (by kernel_rfl) (of_decide_eq_true (by kernel_rfl))
            exact wp_len35F (.tmp 39) rfl A bl c e (hK _ _ rfl (Below.refl _ _))
          · obtain rfl : (⟨some 41, .convert 3 33 (Operand.tmp 40), _, _, _, _⟩ : Oper) = o := Option.some.inj ho
            have hK := hK1 (by decide)
            refine ask_plain rfl ?_
            have e : b.eval (.tmp 40) = .int .i64 (bl : Int) := hv 7 40 (by kernel_rfl) (by kernel_rfl) (of_decide_eq_true (by kernel_rfl))
            exact wp_val (.int .u64 (bl : Int)) (by simp only [execOp, e, Sem.run_bind, conv3_33 bl HBL.out, Result.andThen]; rfl) (hK _ _ rfl (Below.refl _ _))
          · obtain rfl : (⟨some 42, .call { callee := (Callee.value (Operand.func 105)), args := #[(Operand.tmp 41)], argTypes := #[33] }, _, _, _, _⟩ : Oper) = o := Option.some.inj ho
            have hK := hK1 (by decide)
            refine ask_plain rfl ?_
            have e1 : b.eval (.tmp 41) = .int .u64 (bl : Int) := hv 8 41 (by kernel_rfl) (by kernel_rfl) (of_decide_eq_true (by kernel_rfl))
            refine wp_call_fn 105 #[.tmp 41] #[33] rfl Try.f105 _ Try.func105 (by kernel_rfl) rfl #[.int .u64 (bl : Int)] (by simp [e1]) ((CV4.out w1).mono ?_)
            rintro e w2 ⟨v2, rfl, hE2, hb2⟩
            exact ⟨_, rfl, hK _ _ hE2 hb2⟩
          · obtain rfl : (⟨some 43, .call { callee := (Callee.builtin Builtin.append), args := #[(Operand.tmp 37), (Operand.tmp 42)], argTypes := #[35, 35] }, _, _, _, _⟩ : Oper) = o := Option.some.inj ho
            have hK := hK1 (by decide)
            refine ask_plain rfl ?_
            have hown : OwnB w1 W1.heap.size (b.eval (.tmp 37)) (Q3 ++ E3) := hv 4 37 (by kernel_rfl) (by kernel_rfl) (of_decide_eq_true (by kernel_rfl))
            have hsrc : EqN w1 V4 (b.eval (.tmp 42)) := hv 9 42 (by kernel_rfl) (by kernel_rfl) (of_decide_eq_true (by kernel_rfl))
            refine wp_append_B (.tmp 37) (.tmp 42) rfl W1.heap.size (Q3 ++ E3) V4 hown hsrc (by have := L6.out; have := L7.out; have := HQL3.out; rw [List.length_append]; omega) (Nat.le_trans HBW4.out hbel.2.1.size) ?_
            intro v' w' hown' hb'
            have ha : Lc 4 = true := hneed 4 (by kernel_rfl)
            refine hK0 _ _ hown' (fun k v hk hnd hgo h => ?_) ⟨fun h => (by rw [upd_other Lc true (by decide)] at h; rw [ha] at h; cases h), hbel.2.1.trans hb', fun _ => upd_keep (hbel.2.2 ha)⟩
            match k, h with
            | 0, h => cases hgo
            | 1, h => exact h
            | 2, h => exact h
            | 3, h => cases hgo
            | 4, h => cases hgo
            | 5, h => exact h
            | 6, h => exact h
            | 7, h => exact h
            | 8, h => exact h
            | 9, h => cases hgo
            | 10, h => exact absurd rfl hk
            | _ + 11, _ => trivial
        · intro vs wa4 hp ⟨_, _, hbb, _⟩
          have ho : OwnB wa4 W1.heap.size (vs 10) ((Q3 ++ E3) ++ V4) := hp 10 (by decide) (by decide)
          change wpList _ _ _ [_] _ _
          simp only [putD, Act.put, List.setIfInBounds_toArray, List.set_cons_zero, List.set_cons_succ]
          obtain ⟨r4, hr4⟩ : ∃ r, vs 10 = r := ⟨_, rfl⟩
          rw [hr4] at ho ⊢
          generalize vs 0 = y4_0, vs 1 = y4_1, vs 2 = y4_2, vs 3 = y4_3, vs 4 = y4_4, vs 5 = y4_5, vs 6 = y4_6, vs 7 = y4_7, vs 8 = y4_8, vs 9 = y4_9
          obtain ⟨Q4, hQ4⟩ : ∃ Q, ((Q3 ++ E3) ++ V4) = Q := ⟨_, rfl⟩
          rw [hQ4] at ho
          have HO4 := Lib.hid ho
          have HQ4 := Lib.hid hQ4
          have HQL4 := Lib.hid (show Q4.length ≤ 400 by rw [← hQ4, List.length_append, List.length_append]; have := L6.out; have := L7.out; have := HQL3.out; omega)
          have HWA4 := Lib.hid (HWA3.out.trans hbb)
          have HBW5 := Lib.hid (show W1.heap.size ≤ wa4.heap.size from HWA4.out.size)
          have HBOX5 := Lib.hid ((HWA4.out.block _ HG.out).trans HBOX1.out)
          clear ho hQ4 hp hbb hr4 HO3
          go_upto_region 5 with (fail)
          have hb4 : Below w.heap.size w wa4 := HW.out.trans (HWA4.out.mono HW.out.size)
          have HE4 := Lib.hid (HEB.out.below hb4)
          have HB4 := Lib.hid hb4
          have hq : wa4.cell? ⟨g0, 5, none⟩ = some (.slice A bl c) := by rw [Joins.cell_of_block HBOX5.out]; rfl
          clear hb4
          go_wp2_with (first | (at_builtin; refine wpList_append_B rfl (.tmp 44) (.tmp 46) rfl W1.heap.size Q4 body HO4.out HE4.out (by have := HQL4.out; have := HB6.out; omega) HBW5.out ?_; intro v5 w5 hown5 hb5; have HO5 := Lib.hid hown5; have HB5 := Lib.hid (HB4.out.trans (hb5.mono HW.out.size)); clear hown5 hb5) | fail)
          go_ret
          refine ⟨_, rfl, ?_, HB5.out⟩
          have ho := HO5.out
          rw [← HQ4.out, ← HQ3.out, ← HQ2.out, ← HQ1.out, HF.out] at ho
          exact own_weak HW.out.size ho
end Go.Proofs.Ytjaakhjfpigdfaa
/-! Frames: their MAC. -/
namespace Go.Proofs.Ytjaakhjfpigdfaa
open Go.RowKit
set_option linter.unusedVariables false
set_option linter.unusedSimpArgs false
def frameS : ByteArray := { data := #[102, 114, 97, 109, 101] }
/-- A frame's MAC. -/
def keyF (k : By) (x0 : BitVec 8) : By := macL k (purB frameS (BitVec.ofNat 64 x0.toNat))
def sealF (k : By) (x0 : BitVec 8) (b : By) : By := macL (keyF k x0) b
theorem keyF_len (k : By) (x0 : BitVec 8) : (keyF k x0).length = 32 := macL_len _ _
theorem sealF_len (k : By) (x0 : BitVec 8) (b : By) : (sealF k x0 b).length = 32 := macL_len _ _
theorem of64 (x0 : BitVec 8) : (BitVec.ofNat 64 x0.toNat).toNat = x0.toNat := by rw [BitVec.toNat_ofNat]; have := x0.isLt; omega
set_option maxRecDepth 100000 in
set_option maxHeartbeats 4000000 in
theorem fseal_any (k : By) (kv : Value) (x0 : BitVec 8) (b : By) (bv : Value) (w : World) (hk : EqN w k kv) (hkl : k.length ≤ 1000000) (hb : EqN w b bv) (hbl : b.length ≤ 1000000) : Calls Try.prog 91 #[kv, .int .i64 (x0.toNat : Int), bv] w fun e w' => e = .returned (.agg (V8 (sealF k x0 b))) ∧ Below w.heap.size w w' := by
  have hz32 := zeros32
  have hzs32 : (V8 (List.replicate 32 0)).size = 32 := by rw [V8_size]; rfl
  obtain ⟨Zr, hZr⟩ : ∃ Z, V8 (List.replicate 32 0) = Z := ⟨_, rfl⟩
  rw [hZr] at hz32 hzs32
  have HZ32 := Lib.hid hz32
  have z6 := Lib.hid (heap_new w (.cells Zr 25) w.heap.size rfl)
  have b6 := Lib.hid (below_alloc1 w (.cells Zr 25))
  have hk6 := hk.alloc (.cells Zr 25)
  have hb6 := hb.alloc (.cells Zr 25)
  obtain ⟨W1, hW1⟩ : ∃ W, w.alloc (.cells Zr 25) = W := ⟨_, rfl⟩
  rw [hW1] at z6 b6 hk6 hb6
  have HW1 := Lib.hid hW1
  have DE := derive_any k kv frameS (BitVec.ofNat 64 x0.toNat) W1 hk6 hkl (by decide)
  rw [of64] at DE
  have hdl := keyF_len k x0
  have hml := sealF_len k x0 b
  unfold keyF at hdl
  unfold sealF at hml ⊢
  unfold keyF at hml ⊢
  obtain ⟨D, hD⟩ : ∃ D, macL k (purB frameS (BitVec.ofNat 64 x0.toNat)) = D := ⟨_, rfl⟩
  rw [hD] at DE hdl hml ⊢
  obtain ⟨Z, hZ⟩ : ∃ Z, macL D b = Z := ⟨_, rfl⟩
  have HZ := Lib.hid hZ
  rw [hZ] at hml ⊢
  have hx8 := x0.isLt
  obtain ⟨X, hX⟩ : ∃ X, x0.toNat = X := ⟨_, rfl⟩
  rw [hX] at DE hx8 ⊢
  have HDE := Lib.hid DE
  have HDL := Lib.hid hdl
  have HSD := Lib.hid (show (Try.prog.info? 25).map (·.size) = some (V8 D).size by rw [V8_size, hdl]; kernel_rfl)
  have HZD := Lib.hid (show Zr.size = (V8 D).size by rw [V8_size, hdl, hzs32])
  have HSZ := Lib.hid (show (Try.prog.info? 25).map (·.size) = some (V8 Z).size by rw [V8_size, hml]; kernel_rfl)
  have HZZ := Lib.hid (show Zr.size = (V8 Z).size by rw [V8_size, hml, hzs32])
  have HEB := Lib.hid hb6
  have HBL := Lib.hid hbl
  obtain ⟨a1, n1, c1, hbv⟩ := hb.form
  subst hbv
  clear hz32 hzs32 hZr hk6 hb6 hW1 hk hkl hb hbl DE hdl hml hD hZ hX
  go_enter Try.func91, Try.ntmps91
  go_upto_region 1 with (fail)
  rw [← HZ32.out, HW1.out]
  clear HW1
  go_wp2_with fail
  refine HDE.out.mono ?_
  rintro e w3 ⟨rfl, hb3⟩
  have HB3 := Lib.hid hb3
  clear hb3 HDE
  go_upto_region 2 with (first | ((with_reducible show wpList _ _ _ (⟨none, .store 25 (.tmp 7) (.tmp 11), _, _, _, _⟩ :: _) _ _); rw [← HZ32.out]; refine wpList_store_row rfl 25 (.tmp 7) (.tmp 11) rfl w3.heap.size (V8 D) rfl rfl 25 _ (heap_new _ _ _ rfl) HSD.out HZD.out (V8_one _) ?_) | fail)
  generalize hW4 : (World.setRow _ _ _) = W4
  obtain ⟨g5, hg5⟩ : ∃ g, w3.heap.size = g := ⟨_, rfl⟩
  have b4 : Below w3.heap.size w3 W4 := by rw [← hW4]; exact below_setRow _ _ ((Below.refl _ _).alloc (Nat.le_refl _) _) (Nat.le_refl _)
  have hzv := EqN.arr (show W4.heap[g5]? = some (.cells (V8 D) 25 (0, 0)) by rw [← hW4, ← hg5]; exact setRow_heap _ _ _ _ _ _ (heap_new _ _ _ rfl)) 32 HDL.out (by decide)
  have hB4 : Below W1.heap.size W1 W4 := HB3.out.trans (b4.mono HB3.out.size)
  have S := Lib.hid (msum1_any D _ b (.slice a1 n1 c1) W4 hzv (by rw [HDL.out]; decide) (HEB.out.below hB4) HBL.out)
  rw [HZ.out] at S
  have Z4 := Lib.hid (keepH hB4 z6.out)
  have B4 := Lib.hid (b6.out.trans (hB4.mono b6.out.size))
  rw [hg5]
  clear hW4 hg5 b4 HB3 hzv hB4 HEB z6 b6
  go_wp2_with fail
  refine S.out.mono ?_
  rintro e w7 ⟨rfl, hb7⟩
  have Z7 := Lib.hid (keepH hb7 Z4.out)
  have B7 := Lib.hid (B4.out.trans (hb7.mono B4.out.size))
  clear Z4 B4 hb7 S
  go_wp2_with (first | ((with_reducible show wpList _ _ _ (⟨none, .store 25 (.tmp 6) (.tmp 15), _, _, _, _⟩ :: _) _ _); refine wpList_store_row rfl 25 (.tmp 6) (.tmp 15) rfl w.heap.size (V8 Z) rfl rfl 25 _ Z7.out HSZ.out HZZ.out (V8_one _) ?_) | fail)
  have gz := setRow_heap w7 w.heap.size _ (V8 Z) _ _ Z7.out
  have hrv := run_loadVar_row (P := Try.prog) (w7.setRow w.heap.size (V8 Z)) w.heap.size 25 25 (V8 Z) (0, 0) _ gz Try.underlying25 rfl HSZ.out
  exact bodyPost_ret (v := .agg (V8 Z)) (by simp [results, Try.results91, asAddr, hrv, Act.put]) rfl ⟨rfl, below_setRow _ _ B7.out (Nat.le_refl _)⟩
set_option maxRecDepth 100000 in
set_option maxHeartbeats 4000000 in
theorem rsealed_any (k : By) (kv : Value) (x0 : BitVec 8) (b : By) (bv : Value) (w : World) (hk : EqN w k kv) (hkl : k.length ≤ 1000000) (hb : EqN w b bv) (hbl : b.length ≤ 1000000) : Calls Try.prog 92 #[kv, .int .i64 (x0.toNat : Int), bv] w fun e w' => ∃ v, e = .returned v ∧ OwnB w' w.heap.size v (b ++ sealF k x0 b) ∧ Below w.heap.size w w' := by
  have hz32 := zeros32
  have hzs32 : (V8 (List.replicate 32 0)).size = 32 := by rw [V8_size]; rfl
  obtain ⟨Zr, hZr⟩ : ∃ Z, V8 (List.replicate 32 0) = Z := ⟨_, rfl⟩
  rw [hZr] at hz32 hzs32
  have HZ32 := Lib.hid hz32
  have DE := rderive_any k kv frameS (BitVec.ofNat 64 x0.toNat) w hk hkl (by decide)
  rw [of64] at DE
  have hdl := keyF_len k x0
  unfold keyF at hdl
  unfold sealF keyF
  obtain ⟨D, hD⟩ : ∃ D, macL k (purB frameS (BitVec.ofNat 64 x0.toNat)) = D := ⟨_, rfl⟩
  rw [hD] at DE hdl ⊢
  obtain ⟨R, hR⟩ : ∃ R, b ++ macL D b = R := ⟨_, rfl⟩
  have HR := Lib.hid hR
  rw [hR]
  have hx8 := x0.isLt
  obtain ⟨X, hX⟩ : ∃ X, x0.toNat = X := ⟨_, rfl⟩
  rw [hX] at DE hx8 ⊢
  have HDE := Lib.hid DE
  have HDL := Lib.hid hdl
  have HSD := Lib.hid (show (Try.prog.info? 25).map (·.size) = some (V8 D).size by rw [V8_size, hdl]; kernel_rfl)
  have HZD := Lib.hid (show Zr.size = (V8 D).size by rw [V8_size, hdl, hzs32])
  have HEB := Lib.hid hb
  have HBL := Lib.hid hbl
  clear hz32 hzs32 hZr hk hkl hb hbl DE hdl hD hR hX
  go_enter Try.func92, Try.ntmps92
  go_wp2_with fail
  refine HDE.out.mono ?_
  rintro e w3 ⟨rfl, hb3⟩
  have HB3 := Lib.hid hb3
  clear hb3 HDE
  go_upto_region 2 with (first | ((with_reducible show wpList _ _ _ (⟨none, .store 25 (.tmp 7) (.tmp 11), _, _, _, _⟩ :: _) _ _); rw [← HZ32.out]; refine wpList_store_row rfl 25 (.tmp 7) (.tmp 11) rfl w3.heap.size (V8 D) rfl rfl 25 _ (heap_new _ _ _ rfl) HSD.out HZD.out (V8_one _) ?_) | fail)
  generalize hW4 : (World.setRow _ _ _) = W4
  obtain ⟨g5, hg5⟩ : ∃ g, w3.heap.size = g := ⟨_, rfl⟩
  have b4 : Below w3.heap.size w3 W4 := by rw [← hW4]; exact below_setRow _ _ ((Below.refl _ _).alloc (Nat.le_refl _) _) (Nat.le_refl _)
  have hzv := EqN.arr (show W4.heap[g5]? = some (.cells (V8 D) 25 (0, 0)) by rw [← hW4, ← hg5]; exact setRow_heap _ _ _ _ _ _ (heap_new _ _ _ rfl)) 32 HDL.out (by decide)
  have hB4 : Below w.heap.size w W4 := HB3.out.trans (b4.mono HB3.out.size)
  have S := Lib.hid (rseal_any D _ b bv W4 hzv (by rw [HDL.out]; decide) (HEB.out.below hB4) HBL.out)
  rw [HR.out] at S
  have B4 := Lib.hid hB4
  rw [hg5]
  clear hW4 hg5 b4 HB3 hzv hB4 HEB
  go_wp2_with fail
  refine S.out.mono ?_
  rintro e w7 ⟨v, rfl, hown, hb7⟩
  have HO := Lib.hid (own_weak B4.out.size (show OwnB w7 W4.heap.size v R from hown))
  have B7 := Lib.hid (B4.out.trans (hb7.mono B4.out.size))
  clear B4 hb7 S hown
  go_wp2
  go_ret
  exact ⟨_, rfl, HO.out, B7.out⟩
end Go.Proofs.Ytjaakhjfpigdfaa
/-! Frames: sealed. -/
namespace Go.Proofs.Ytjaakhjfpigdfaa
open Go.RowKit
set_option linter.unusedVariables false
set_option linter.unusedSimpArgs false
/-- A frame's bytes with their MAC; nothing where it may not be. -/
def sealB (k : By) (f : Fr) : By := if okF f = true then bodyF f ++ sealF k (BitVec.ofInt 8 f.fr) (bodyF f) else []
def okE (f : Fr) : Int := if okF f = true then 0 else 180
theorem bodyF_len (f : Fr) (h : okF f = true) : (bodyF f).length ≤ 600000 := by
  obtain ⟨_, _, _, _, _, h6, _⟩ := (okF_iff f).1 h
  unfold bodyF
  simp only [List.length_append, length_wordBytes, List.length_cons, List.length_nil]
  have h1 := vlist_len10 f.ep.toNat
  have h2 := vlist_len10 f.n.toNat
  have h3 := vlist_len10 f.all.toNat
  have h4 := vlist_len10 f.body.length
  omega
theorem OwnB.nil (w : World) (B : Nat) : OwnB w B (.slice none 0 0) [] := ⟨rfl, .inl ⟨rfl, rfl⟩⟩
set_option maxRecDepth 100000 in
set_option maxHeartbeats 4000000 in
theorem fSeal_any (k : By) (kv : Value) (f : Fr) (u : Value) (w : World) (hk : EqN w k kv) (hkl : k.length ≤ 1000000) (hu : EqN w f.body u) : Calls Try.prog 61 #[kv, frV f u] w fun e w' => ∃ v, e = .returned (.tuple #[v, .int .i64 (okE f)]) ∧ OwnB w' w.heap.size v (sealB k f) ∧ Below w.heap.size w w' := by
  obtain ⟨A, c, rfl, hc, hr, hn⟩ := hu
  have hu : EqN w f.body (.slice A f.body.length c) := ⟨A, c, rfl, hc, hr, hn⟩
  by_cases hok : okF f = true
  · have hfl := bodyF_len f hok
    have hml := fun x b => sealF_len k x b
    have h1 := ((okF_iff f).1 hok).1
    unfold sealB okE
    rw [if_pos hok, if_pos hok]
    have CK := fun w' => fcheck_any f A c w' hc
    rw [if_pos hok] at CK
    have CB := fun w' (hb : Below w.heap.size w w') => body_any f (.slice A f.body.length c) w' (hu.below hb) hok
    obtain ⟨F, hF⟩ : ∃ F, bodyF f = F := ⟨_, rfl⟩
    rw [hF] at CB hfl ⊢
    obtain ⟨fr, ep, me, you, n, body, all, more⟩ := f
    simp only at h1 hu hc hr
    obtain ⟨x0, hx0, rfl⟩ : ∃ x0 : BitVec 8, BitVec.ofInt 8 fr = x0 ∧ fr = (x0.toNat : Int) := ⟨BitVec.ofInt 8 fr, rfl, by rcases h1 with rfl | rfl <;> rfl⟩
    unfold frV at CK CB ⊢
    simp only [hx0] at CK CB ⊢
    obtain ⟨bl, hbl⟩ : ∃ b, body.length = b := ⟨_, rfl⟩
    rw [hbl] at CK CB ⊢
    have HML := Lib.hid (hml x0 F)
    obtain ⟨Z, hZ⟩ : ∃ Z, sealF k x0 F = Z := ⟨_, rfl⟩
    have HZ := Lib.hid hZ
    rw [hZ] at HML ⊢
    have hz32 := zeros32
    have hzs32 : (V8 (List.replicate 32 0)).size = 32 := by rw [V8_size]; rfl
    obtain ⟨Zr, hZr⟩ : ∃ Z, V8 (List.replicate 32 0) = Z := ⟨_, rfl⟩
    rw [hZr] at hz32 hzs32
    have HZ32 := Lib.hid hz32
    have HSZ := Lib.hid (show (Try.prog.info? 25).map (·.size) = some (V8 Z).size by rw [V8_size, HML.out]; kernel_rfl)
    have HZZ := Lib.hid (show Zr.size = (V8 Z).size by rw [V8_size, HML.out, hzs32])
    have HK := Lib.hid hk
    have HKL := Lib.hid hkl
    have HFL := Lib.hid hfl
    obtain ⟨FC, hFC⟩ : ∃ F : Array Value, #[.int .i64 (x0.toNat : Int), .int .i64 ep, .int .u64 (me.toNat : Int), .int .u64 (you.toNat : Int), .int .i64 n, .slice A bl c, .int .i64 all, .int .u64 (more.toNat : Int)] = F := ⟨_, rfl⟩
    rw [hFC]
    have HCK := Lib.hid (fun w' => by have h := CK w'; rw [hFC] at h; exact h)
    have HCB := Lib.hid (fun w' hb => by have h := CB w' hb; rw [hFC] at h; exact h)
    have HS83 := Lib.hid (show (Try.prog.info? 83).map (·.size) = some FC.size by rw [← hFC]; kernel_rfl)
    have HF0 := Lib.hid (show FC[0]? = some (.int .i64 (x0.toNat : Int)) by rw [← hFC]; rfl)
    have hbox := heap_new w (.cells FC 83) w.heap.size rfl
    have b1 := below_alloc1 w (.cells FC 83)
    obtain ⟨W1, hW1⟩ : ∃ W, w.alloc (.cells FC 83) = W := ⟨_, rfl⟩
    rw [hW1] at hbox b1
    have HBOX := Lib.hid hbox
    have HB1 := Lib.hid b1
    have HW1 := Lib.hid hW1
    clear hok hfl hml h1 CK CB hF hx0 hbl hZ hz32 hzs32 hZr hk hkl hu hc hr hn hbox b1 hW1 hFC
    go_enter Try.func61, Try.ntmps61
    go_upto_region 1 with (fail)
    rw [HW1.out]
    clear HW1
    go_wp2_with (first | ((with_reducible show wpList _ _ _ (⟨some 9, .load 83 (.tmp 3), _, _, _, _⟩ :: _) _ _); refine wpList_load_cells rfl 83 (.tmp 3) rfl ⟨w.heap.size, 0, none⟩ rfl FC _ rfl (fun j v hj => by rw [add_zero_off, Joins.cell_of_block HBOX.out]; exact hj) Try.underlying83 HS83.out ?_) | fail)
    refine (HCK.out W1).mono ?_
    rintro e w2 ⟨rfl, hb2⟩
    have HX2s : w.heap.size ≤ w2.heap.size := by have := hb2.size; have := HB1.out.size; omega
    have HX2 := Lib.hid (keepH hb2 HBOX.out)
    have HB2 := Lib.hid (HB1.out.trans (hb2.mono HB1.out.size))
    clear hb2 HBOX HB1 HCK
    go_wp2_with (first | ((with_reducible show wpList _ _ _ (⟨some 14, .load 83 (.tmp 3), _, _, _, _⟩ :: _) _ _); refine wpList_load_cells rfl 83 (.tmp 3) rfl ⟨w.heap.size, 0, none⟩ rfl FC _ rfl (fun j v hj => by rw [add_zero_off, Joins.cell_of_block HX2.out]; exact hj) Try.underlying83 HS83.out ?_) | fail)
    refine (HCB.out w2 HB2.out).mono ?_
    rintro e w3 ⟨bv, rfl, hown, hb3⟩
    have HX3 := keepH hb3 HX2.out
    have hq : w3.cell? ⟨w.heap.size, 0, none⟩ = some (.int .i64 (x0.toNat : Int)) := by rw [Joins.cell_of_block HX3]; exact HF0.out
    have HO3 := Lib.hid hown
    have HB3 := Lib.hid (HB2.out.trans (hb3.mono HB2.out.size))
    have SL := Lib.hid (fseal_any k kv x0 F bv w3 (HK.out.below HB3.out) HKL.out hown.eqn (by have := HFL.out; omega))
    rw [HZ.out] at SL
    have HS3 := Lib.hid hb3.size
    clear hown hb3 HX3 HB2 HX2 HCB HK HKL
    go_wp2_with fail
    refine SL.out.mono ?_
    rintro e w4 ⟨rfl, hb4⟩
    have HO4 := Lib.hid (HO3.out.below hb4)
    have HB4 := Lib.hid (HB3.out.trans (hb4.mono HB3.out.size))
    have HS4 := Lib.hid (Nat.le_trans HS3.out hb4.size)
    clear hb4 HO3 HB3 hq SL HS3
    go_upto_region 6 with (first | ((with_reducible show wpList _ _ _ (⟨none, .store 25 (.tmp 8) (.tmp 20), _, _, _, _⟩ :: _) _ _); rw [← HZ32.out]; refine wpList_store_row rfl 25 (.tmp 8) (.tmp 20) rfl w4.heap.size (V8 Z) rfl rfl 25 _ (heap_new _ _ _ rfl) HSZ.out HZZ.out (V8_one _) ?_) | fail)
    generalize hW5 : (World.setRow _ _ _) = W5
    obtain ⟨g5, hg5⟩ : ∃ g, w4.heap.size = g := ⟨_, rfl⟩
    have b5 : Below w4.heap.size w4 W5 := by rw [← hW5]; exact below_setRow _ _ ((Below.refl _ _).alloc (Nat.le_refl _) _) (Nat.le_refl _)
    have hzv := EqN.arr (show W5.heap[g5]? = some (.cells (V8 Z) 25 (0, 0)) by rw [← hW5, ← hg5]; exact setRow_heap _ _ _ _ _ _ (heap_new _ _ _ rfl)) 32 HML.out (by decide)
    have HZV := Lib.hid hzv
    have HO5 := Lib.hid (HO4.out.below b5)
    have HB5 := Lib.hid (HB4.out.trans (b5.mono HB4.out.size))
    have HS5 := Lib.hid (Nat.le_trans HS4.out b5.size)
    have HS2 := Lib.hid HX2s
    rw [hg5]
    clear hW5 hg5 b5 hzv HO4 HB4 HS4
    go_wp2_with (first | (at_builtin; refine wpList_append_B rfl (.tmp 21) (.tmp 22) rfl w2.heap.size F Z HO5.out HZV.out (by have := HFL.out; have := HML.out; omega) HS5.out ?_; intro v6 w6 hown6 hb6; have HO6 := Lib.hid (own_weak HS2.out hown6); have HB6 := Lib.hid (HB5.out.trans (hb6.mono HS2.out)); clear hown6 hb6) | fail)
    exact bodyPost_ret (v := .tuple #[v6, .int .i64 0]) (by simp [results, Try.results61]) rfl ⟨_, rfl, HO6.out, HB6.out⟩
  · have CK := fun w' => fcheck_any f A c w' hc
    rw [if_neg hok] at CK
    unfold sealB okE
    rw [if_neg hok, if_neg hok]
    obtain ⟨fr, ep, me, you, n, body, all, more⟩ := f
    unfold frV at CK ⊢
    simp only at CK ⊢
    obtain ⟨bl, hbl⟩ : ∃ b, body.length = b := ⟨_, rfl⟩
    rw [hbl] at CK ⊢
    obtain ⟨FC, hFC⟩ : ∃ F : Array Value, #[.int .i64 fr, .int .i64 ep, .int .u64 (me.toNat : Int), .int .u64 (you.toNat : Int), .int .i64 n, .slice A bl c, .int .i64 all, .int .u64 (more.toNat : Int)] = F := ⟨_, rfl⟩
    rw [hFC]
    have HCK := Lib.hid (fun w' => by have h := CK w'; rw [hFC] at h; exact h)
    have HS83 := Lib.hid (show (Try.prog.info? 83).map (·.size) = some FC.size by rw [← hFC]; kernel_rfl)
    have hbox := heap_new w (.cells FC 83) w.heap.size rfl
    have b1 := below_alloc1 w (.cells FC 83)
    obtain ⟨W1, hW1⟩ : ∃ W, w.alloc (.cells FC 83) = W := ⟨_, rfl⟩
    rw [hW1] at hbox b1
    have HBOX := Lib.hid hbox
    have HB1 := Lib.hid b1
    have HW1 := Lib.hid hW1
    clear hok hbl CK hk hkl hu hc hr hn hbox b1 hW1 hFC
    go_enter Try.func61, Try.ntmps61
    go_upto_region 1 with (fail)
    rw [HW1.out]
    clear HW1
    go_wp2_with (first | ((with_reducible show wpList _ _ _ (⟨some 9, .load 83 (.tmp 3), _, _, _, _⟩ :: _) _ _); refine wpList_load_cells rfl 83 (.tmp 3) rfl ⟨w.heap.size, 0, none⟩ rfl FC _ rfl (fun j v hj => by rw [add_zero_off, Joins.cell_of_block HBOX.out]; exact hj) Try.underlying83 HS83.out ?_) | fail)
    refine (HCK.out W1).mono ?_
    rintro e w2 ⟨rfl, hb2⟩
    have HB2 := Lib.hid (HB1.out.trans (hb2.mono HB1.out.size))
    clear hb2 HBOX HB1 HCK
    go_wp2
    exact bodyPost_ret (v := .tuple #[.slice none 0 0, .int .i64 180]) (by simp [results, Try.results61]) rfl ⟨_, rfl, OwnB.nil _ _, HB2.out⟩
end Go.Proofs.Ytjaakhjfpigdfaa
/-! Frames: sealed (the reference's). -/
namespace Go.Proofs.Ytjaakhjfpigdfaa
open Go.RowKit
set_option linter.unusedVariables false
set_option linter.unusedSimpArgs false
def pdRS (kv : Value) (g0 B : Nat) (x0 : BitVec 8) (FC : Array Value) (F R : By) : Nat → Value → World → Prop
  | 0 => fun v w => v = kv
  | 1 => fun v w => v = .pointer (some ⟨g0, 0, none⟩)
  | 2 => fun v w => v = .int .i64 (x0.toNat : Int)
  | 3 => fun v w => v = .agg FC
  | 4 => fun v w => EqN w F v
  | 5 => fun v w => OwnB w B v R
  | _ => fun _ _ => True
theorem pdRS_mono (kv : Value) (g0 B : Nat) (x0 : BitVec 8) (FC : Array Value) (F R : By) : ∀ q0 v w w', pdRS kv g0 B x0 FC F R q0 v w → Below w.heap.size w w' → pdRS kv g0 B x0 FC F R q0 v w'
  | 0, _, _, _, h, _ => h
  | 1, _, _, _, h, _ => h
  | 2, _, _, _, h, _ => h
  | 3, _, _, _, h, _ => h
  | 4, _, _, _, h, hb => EqN.below h hb
  | 5, _, _, _, h, hb => OwnB.below h hb
  | _ + 6, _, _, _, _, _ => trivial
set_option maxRecDepth 100000 in
set_option maxHeartbeats 4000000 in
theorem rfSeal_any (k : By) (kv : Value) (f : Fr) (u : Value) (w : World) (hk : EqN w k kv) (hkl : k.length ≤ 1000000) (hu : EqN w f.body u) : Calls Try.prog 62 #[kv, frV f u] w fun e w' => ∃ v, e = .returned (.tuple #[v, .int .i64 (okE f)]) ∧ OwnB w' w.heap.size v (sealB k f) ∧ Below w.heap.size w w' := by
  obtain ⟨A, c, rfl, hc, hr, hn⟩ := hu
  have hu : EqN w f.body (.slice A f.body.length c) := ⟨A, c, rfl, hc, hr, hn⟩
  by_cases hok : okF f = true
  · have hfl := bodyF_len f hok
    have hml := fun x b => sealF_len k x b
    have h1 := ((okF_iff f).1 hok).1
    unfold sealB okE
    rw [if_pos hok, if_pos hok]
    have CK := fun w' => rfcheck_any f A c w' hc
    rw [if_pos hok] at CK
    have CB := fun w' (hb : Below w.heap.size w w') => rbody_any f (.slice A f.body.length c) w' (hu.below hb) hok
    obtain ⟨F, hF⟩ : ∃ F, bodyF f = F := ⟨_, rfl⟩
    rw [hF] at CB hfl ⊢
    obtain ⟨fr, ep, me, you, n, body, all, more⟩ := f
    simp only at h1 hu hc hr
    obtain ⟨x0, hx0, rfl⟩ : ∃ x0 : BitVec 8, BitVec.ofInt 8 fr = x0 ∧ fr = (x0.toNat : Int) := ⟨BitVec.ofInt 8 fr, rfl, by rcases h1 with rfl | rfl <;> rfl⟩
    unfold frV at CK CB ⊢
    simp only [hx0] at CK CB ⊢
    obtain ⟨bl, hbl⟩ : ∃ b, body.length = b := ⟨_, rfl⟩
    rw [hbl] at CK CB ⊢
    obtain ⟨R, hR⟩ : ∃ R, F ++ sealF k x0 F = R := ⟨_, rfl⟩
    have HR := Lib.hid hR
    rw [hR]
    have HK := Lib.hid hk
    have HKL := Lib.hid hkl
    have HFL := Lib.hid hfl
    obtain ⟨FC, hFC⟩ : ∃ F : Array Value, #[.int .i64 (x0.toNat : Int), .int .i64 ep, .int .u64 (me.toNat : Int), .int .u64 (you.toNat : Int), .int .i64 n, .slice A bl c, .int .i64 all, .int .u64 (more.toNat : Int)] = F := ⟨_, rfl⟩
    rw [hFC]
    have HCK := Lib.hid (fun w' => by have h := CK w'; rw [hFC] at h; exact h)
    have HCB := Lib.hid (fun w' hb => by have h := CB w' hb; rw [hFC] at h; exact h)
    have HS83 := Lib.hid (show (Try.prog.info? 83).map (·.size) = some FC.size by rw [← hFC]; kernel_rfl)
    have HF0 := Lib.hid (show FC[0]? = some (.int .i64 (x0.toNat : Int)) by rw [← hFC]; rfl)
    have hbox := heap_new w (.cells FC 83) w.heap.size rfl
    have b1 := below_alloc1 w (.cells FC 83)
    obtain ⟨W1, hW1⟩ : ∃ W, w.alloc (.cells FC 83) = W := ⟨_, rfl⟩
    rw [hW1] at hbox b1
    have HBOX := Lib.hid hbox
    have HB1 := Lib.hid b1
    have HW1 := Lib.hid hW1
    clear hok hfl hml h1 CK CB hF hx0 hbl hR hk hkl hu hc hr hn hbox b1 hW1 hFC
    go_enter Try.func62, Try.ntmps62
    go_upto_region 1 with (fail)
    rw [HW1.out]
    clear HW1
    go_wp2_with (first | ((with_reducible show wpList _ _ _ (⟨some 6, .load 83 (.tmp 3), _, _, _, _⟩ :: _) _ _); refine wpList_load_cells rfl 83 (.tmp 3) rfl ⟨w.heap.size, 0, none⟩ rfl FC _ rfl (fun j v hj => by rw [add_zero_off, Joins.cell_of_block HBOX.out]; exact hj) Try.underlying83 HS83.out ?_) | fail)
    refine (HCK.out W1).mono ?_
    rintro e w2 ⟨rfl, hb2⟩
    have HX2s : w.heap.size ≤ w2.heap.size := by have := hb2.size; have := HB1.out.size; omega
    have HX2 := Lib.hid (keepH hb2 HBOX.out)
    have HB2 := Lib.hid (HB1.out.trans (hb2.mono HB1.out.size))
    clear hb2 HBOX HB1 HCK
    have HG := Lib.hid (show w.heap.size < w2.heap.size from (Array.getElem?_eq_some_iff.1 HX2.out).1)
    go_upto_region 3 with (fail)
    refine wp_region_mono (w0 := _) 6 [some 9, some 10, some 11, some 12, some 13, some 14] (by kernel_rfl) (by kernel_rfl) (by kernel_rfl) (by kernel_rfl) (of_decide_eq_true (by kernel_rfl)) (by kernel_rfl) (pdRS kv w.heap.size w.heap.size x0 FC F R) ?_ ?_ ?_
    · exact pdRS_mono kv w.heap.size w.heap.size x0 FC F R
    · intro i hi o w1 b ho hbel hv hstood hsize K hK
      have hc : i = 0 ∨ i = 1 ∨ i = 2 ∨ i = 3 ∨ i = 4 ∨ i = 5 := by omega
      rcases hc with rfl | rfl | rfl | rfl | rfl | rfl
      · obtain rfl : (⟨some 9, .move (Operand.tmp 0), _, _, _, _⟩ : Oper) = o := Option.some.inj ho
        refine ask_plain rfl ?_
        have e : b.eval (.tmp 0) = kv := (hstood 0 (by kernel_rfl)).trans rfl
        exact wp_val _ rfl (hK _ _ e (Below.refl _ _))
      · obtain rfl : (⟨some 10, .fieldAddr 83 (Operand.tmp 3) 0, _, _, _, _⟩ : Oper) = o := Option.some.inj ho
        refine ask_plain rfl ?_
        have e : b.eval (.tmp 3) = .pointer (some ⟨w.heap.size, 0, none⟩) := (hstood 3 (by kernel_rfl)).trans rfl
        exact wp_val (.pointer (some ⟨w.heap.size, 0, none⟩)) (by simp only [execOp, e, Sem.run_bind, field83 w.heap.size 0 (by decide), Result.andThen]; rfl) (hK _ _ rfl (Below.refl _ _))
      · obtain rfl : (⟨some 11, .load 3 (Operand.tmp 10), _, _, _, _⟩ : Oper) = o := Option.some.inj ho
        refine ask_plain rfl ?_
        have e : b.eval (.tmp 10) = .pointer (some ⟨w.heap.size, 0, none⟩) := hv 1 10 (by kernel_rfl) (by kernel_rfl) (of_decide_eq_true (by kernel_rfl))
        have hq : w1.cell? ⟨w.heap.size, 0, none⟩ = some (.int .i64 (x0.toNat : Int)) := by rw [Joins.cell_of_block ((hbel.block _ HG.out).trans HX2.out)]; exact HF0.out
        exact wp_val (.int .i64 (x0.toNat : Int)) (by simp only [execOp, e]; exact load3 _ _ _ hq) (hK _ _ rfl (Below.refl _ _))
      · obtain rfl : (⟨some 12, .load 83 (Operand.tmp 3), _, _, _, _⟩ : Oper) = o := Option.some.inj ho
        refine ask_plain rfl ?_
        have e : b.eval (.tmp 3) = .pointer (some ⟨w.heap.size, 0, none⟩) := (hstood 3 (by kernel_rfl)).trans rfl
        exact wp_load_cells 83 (.tmp 3) rfl ⟨w.heap.size, 0, none⟩ e FC _ rfl (fun j v hj => by rw [add_zero_off, Joins.cell_of_block ((hbel.block _ HG.out).trans HX2.out)]; exact hj) Try.underlying83 HS83.out (hK _ _ rfl (Below.refl _ _))
      · obtain rfl : (⟨some 13, .call { callee := (Callee.value (Operand.func 93)), args := #[(Operand.tmp 12)], argTypes := #[83] }, _, _, _, _⟩ : Oper) = o := Option.some.inj ho
        refine ask_plain rfl ?_
        have e1 : b.eval (.tmp 12) = .agg FC := hv 3 12 (by kernel_rfl) (by kernel_rfl) (of_decide_eq_true (by kernel_rfl))
        refine wp_call_fn 93 #[.tmp 12] #[83] rfl Try.f93 _ Try.func93 (by kernel_rfl) rfl #[.agg FC] (by simp [e1]) ((HCB.out w1 (HB2.out.trans (hbel.mono HB2.out.size))).mono ?_)
        rintro e w2 ⟨v2, rfl, hown2, hb2⟩
        exact ⟨_, rfl, hK _ _ hown2.eqn hb2⟩
      · obtain rfl : (⟨some 14, .call { callee := (Callee.value (Operand.func 92)), args := #[(Operand.tmp 9), (Operand.tmp 11), (Operand.tmp 13)], argTypes := #[35, 3, 35] }, _, _, _, _⟩ : Oper) = o := Option.some.inj ho
        refine ask_plain rfl ?_
        have e1 : b.eval (.tmp 9) = kv := hv 0 9 (by kernel_rfl) (by kernel_rfl) (of_decide_eq_true (by kernel_rfl))
        have e2 : b.eval (.tmp 11) = .int .i64 (x0.toNat : Int) := hv 2 11 (by kernel_rfl) (by kernel_rfl) (of_decide_eq_true (by kernel_rfl))
        have e3 : EqN w1 F (b.eval (.tmp 13)) := hv 4 13 (by kernel_rfl) (by kernel_rfl) (of_decide_eq_true (by kernel_rfl))
        have hcall := rsealed_any k kv x0 F (b.eval (.tmp 13)) w1 (HK.out.below (HB2.out.trans (hbel.mono HB2.out.size))) HKL.out e3 (by have := HFL.out; omega)
        rw [HR.out] at hcall
        refine wp_call_fn 92 #[.tmp 9, .tmp 11, .tmp 13] #[35, 3, 35] rfl Try.f92 _ Try.func92 (by kernel_rfl) rfl #[kv, .int .i64 (x0.toNat : Int), b.eval (.tmp 13)] (by simp [e1, e2]) (hcall.mono ?_)
        rintro e w2 ⟨v2, rfl, hown2, hb2⟩
        exact ⟨_, rfl, hK _ _ (own_weak (Nat.le_trans HB2.out.size hbel.size) hown2) hb2⟩
    · intro vs w5 hp hb5
      have ho : OwnB w5 w.heap.size (vs 5) R := hp 5 (by decide)
      change wpList _ _ _ [_, _] _ _
      simp only [putD, Act.put, List.setIfInBounds_toArray, List.set_cons_zero, List.set_cons_succ]
      obtain ⟨r5, hr5⟩ : ∃ r, vs 5 = r := ⟨_, rfl⟩
      rw [hr5] at ho ⊢
      generalize vs 0 = y0, vs 1 = y1, vs 2 = y2, vs 3 = y3, vs 4 = y4
      have HO := Lib.hid ho
      have HB5 := Lib.hid (HB2.out.trans (hb5.mono HB2.out.size))
      clear ho hp hb5 hr5
      go_wp2
      exact bodyPost_ret (v := .tuple #[r5, .int .i64 0]) (by simp [results, Try.results62]) rfl ⟨_, rfl, HO.out, HB5.out⟩
  · have CK := fun w' => rfcheck_any f A c w' hc
    rw [if_neg hok] at CK
    unfold sealB okE
    rw [if_neg hok, if_neg hok]
    obtain ⟨fr, ep, me, you, n, body, all, more⟩ := f
    unfold frV at CK ⊢
    simp only at CK ⊢
    obtain ⟨bl, hbl⟩ : ∃ b, body.length = b := ⟨_, rfl⟩
    rw [hbl] at CK ⊢
    obtain ⟨FC, hFC⟩ : ∃ F : Array Value, #[.int .i64 fr, .int .i64 ep, .int .u64 (me.toNat : Int), .int .u64 (you.toNat : Int), .int .i64 n, .slice A bl c, .int .i64 all, .int .u64 (more.toNat : Int)] = F := ⟨_, rfl⟩
    rw [hFC]
    have HCK := Lib.hid (fun w' => by have h := CK w'; rw [hFC] at h; exact h)
    have HS83 := Lib.hid (show (Try.prog.info? 83).map (·.size) = some FC.size by rw [← hFC]; kernel_rfl)
    have hbox := heap_new w (.cells FC 83) w.heap.size rfl
    have b1 := below_alloc1 w (.cells FC 83)
    obtain ⟨W1, hW1⟩ : ∃ W, w.alloc (.cells FC 83) = W := ⟨_, rfl⟩
    rw [hW1] at hbox b1
    have HBOX := Lib.hid hbox
    have HB1 := Lib.hid b1
    have HW1 := Lib.hid hW1
    clear hok hbl CK hk hkl hu hc hr hn hbox b1 hW1 hFC
    go_enter Try.func62, Try.ntmps62
    go_upto_region 1 with (fail)
    rw [HW1.out]
    clear HW1
    go_wp2_with (first | ((with_reducible show wpList _ _ _ (⟨some 6, .load 83 (.tmp 3), _, _, _, _⟩ :: _) _ _); refine wpList_load_cells rfl 83 (.tmp 3) rfl ⟨w.heap.size, 0, none⟩ rfl FC _ rfl (fun j v hj => by rw [add_zero_off, Joins.cell_of_block HBOX.out]; exact hj) Try.underlying83 HS83.out ?_) | fail)
    refine (HCK.out W1).mono ?_
    rintro e w2 ⟨rfl, hb2⟩
    have HB2 := Lib.hid (HB1.out.trans (hb2.mono HB1.out.size))
    clear hb2 HBOX HB1 HCK
    go_wp2
    exact bodyPost_ret (v := .tuple #[.slice none 0 0, .int .i64 180]) (by simp [results, Try.results62]) rfl ⟨_, rfl, OwnB.nil _ _, HB2.out⟩
end Go.Proofs.Ytjaakhjfpigdfaa
