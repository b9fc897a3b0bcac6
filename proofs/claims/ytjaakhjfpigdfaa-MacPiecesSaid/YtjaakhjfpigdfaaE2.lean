import Derived.Test.YtjaakhjfpigdfaaE1
/-! A MAC that sums what comes: Sum; New. -/
namespace Go.Proofs.Ytjaakhjfpigdfaa
open Go.RowKit
set_option linter.unusedVariables false
set_option linter.unusedSimpArgs false
set_option maxRecDepth 100000 in
theorem field76_0 (g : Nat) (w : World) : (Instr.fieldAt 76 (.pointer (some ⟨g, 0, none⟩)) 0).run Try.prog w = .ok (.pointer (some ⟨g, 0, none⟩)) w := by
  simp [go_sem, Instr.fieldAt]
set_option maxRecDepth 100000 in
theorem field76_1 (g : Nat) (w : World) : (Instr.fieldAt 76 (.pointer (some ⟨g, 0, none⟩)) 1).run Try.prog w = .ok (.pointer (some ⟨g, 64, none⟩)) w := by
  simp [go_sem, Instr.fieldAt]
theorem load52 (a : Addr) (x : Option Addr) (w : World) (h : w.cell? a = some (.pointer x)) : (do pure (Next.value (← Instr.loadAt 52 (.pointer (some a)))) : Sem Next).run Try.prog w = .ok (.value (.pointer x)) w := by
  simp [go_sem, h]
def pdMM (KB D Z : By) (g g4 : Nat) : Nat → Value → World → Prop
  | 0 => fun v w => v = .pointer (some ⟨g, 0, none⟩)
  | 1 => fun v w => v = .pointer (some ⟨g, 0, none⟩)
  | 2 => fun v w => v = .pointer (some ⟨g, 0, none⟩)
  | 3 => fun v w => v = .agg (V8 KB)
  | 4 => fun v w => EqN w (xorB KB 0x5c#8) v
  | 5 => fun v w => v = .slice (some ⟨g4, 0, none⟩) 32 32
  | 6 => fun v w => ∃ g, v = .slice (some ⟨g, 0, none⟩) 2 2 ∧ RdN w (some ⟨g, 0, none⟩) [xorB KB 0x5c#8, D]
  | 7 => fun v w => v = .agg (V8 Z)
  | _ => fun _ _ => True
theorem pdMM_mono (KB D Z : By) (g g4 : Nat) : ∀ q0 v w w', pdMM KB D Z g g4 q0 v w → Below w.heap.size w w' → pdMM KB D Z g g4 q0 v w'
  | 0, _, _, _, h, _ => h
  | 1, _, _, _, h, _ => h
  | 2, _, _, _, h, _ => h
  | 3, _, _, _, h, _ => h
  | 4, _, _, _, h, hb => EqN.below h hb
  | 5, _, _, _, h, _ => h
  | 6, _, _, _, h, hb => by obtain ⟨g, e, h2⟩ := h; exact ⟨g, e, h2.below hb⟩
  | 7, _, _, _, h, _ => h
  | _ + 8, _, _, _, _, _ => trivial
def pdMN (KB : By) (g h : Nat) : Nat → Value → World → Prop
  | 0 => fun v w => v = .pointer (some ⟨g, 0, none⟩)
  | 1 => fun v w => v = .pointer (some ⟨g, 0, none⟩)
  | 2 => fun v w => v = .pointer (some ⟨g, 64, none⟩)
  | 3 => fun v w => v = .pointer (some ⟨h, 0, none⟩)
  | 4 => fun v w => v = .pointer (some ⟨g, 0, none⟩)
  | 5 => fun v w => v = .pointer (some ⟨g, 0, none⟩)
  | 6 => fun v w => v = .pointer (some ⟨g, 0, none⟩)
  | 7 => fun v w => v = .agg (V8 KB)
  | 8 => fun v w => EqN w (xorB KB 0x36#8) v
  | _ => fun _ _ => True
theorem pdMN_mono (KB : By) (g h : Nat) : ∀ q0 v w w', pdMN KB g h q0 v w → Below w.heap.size w w' → pdMN KB g h q0 v w'
  | 0, _, _, _, hx, _ => hx
  | 1, _, _, _, hx, _ => hx
  | 2, _, _, _, hx, _ => hx
  | 3, _, _, _, hx, _ => hx
  | 4, _, _, _, hx, _ => hx
  | 5, _, _, _, hx, _ => hx
  | 6, _, _, _, hx, _ => hx
  | 7, _, _, _, hx, _ => hx
  | 8, _, _, _, hx, hb => EqN.below hx hb
  | _ + 9, _, _, _, _, _ => trivial
set_option maxRecDepth 100000 in
set_option maxHeartbeats 4000000 in
theorem mmsum_any (g h : Nat) (k l : By) (w : World) (hm : MacAt w g h k l) (hl : l.length ≤ 1000000) : Calls Try.prog 55 #[.pointer (some ⟨g, 0, none⟩)] w fun e w' => e = .returned (.tuple #[.agg (V8 (macL k l)), .int .i64 0]) ∧ Below w.heap.size w w' := by
  obtain ⟨i35, hi35', hz35', hs35', hb35⟩ := info_parts info35
  have HI35 := Lib.hid hi35'
  have HZ35 := Lib.hid hz35'
  have HS35 := Lib.hid hs35'
  have hz32 := zeros32
  have hzs32 : (V8 (List.replicate 32 0)).size = 32 := by rw [V8_size]; rfl
  obtain ⟨Zr, hZr⟩ : ∃ Z, V8 (List.replicate 32 0) = Z := ⟨_, rfl⟩
  rw [hZr] at hz32 hzs32
  have HZ32 := Lib.hid hz32
  have HZS32 := Lib.hid hzs32
  have z2 := Lib.hid (heap_new w (.cells Zr 25) w.heap.size rfl)
  have b2 := Lib.hid (below_alloc1 w (.cells Zr 25))
  have hm1 := hm.below b2.out
  obtain ⟨W1, hW1⟩ : ∃ W, w.alloc (.cells Zr 25) = W := ⟨_, rfl⟩
  rw [hW1] at z2 b2 hm1
  have HW1 := Lib.hid hW1
  obtain ⟨hc, hh, hne⟩ := hm1
  have hkb := keyB_len k
  have hml := macL_len k l
  have hz3 : sumL (xorB (keyB k) 0x5c#8 ++ sumL (xorB (keyB k) 0x36#8 ++ l)) = macL k l := rfl
  obtain ⟨KB, hK⟩ : ∃ K, keyB k = K := ⟨_, rfl⟩
  rw [hK] at hkb hc hh hz3
  have S2 := Lib.hid (hsum_any h (xorB KB 0x36#8 ++ l) W1 hh (by rw [List.length_append, xorB_len, hkb]; omega))
  have hDl := sumL_len (xorB KB 0x36#8 ++ l)
  obtain ⟨D, hD⟩ : ∃ D, sumL (xorB KB 0x36#8 ++ l) = D := ⟨_, rfl⟩
  rw [hD] at S2 hDl hz3
  obtain ⟨Z, hZ2⟩ : ∃ Z, macL k l = Z := ⟨_, rfl⟩
  rw [hZ2] at hml hz3 ⊢
  have q : W1.cell? ⟨g, 64, none⟩ = some (.pointer (some ⟨h, 0, none⟩)) := by rw [Joins.cell_of_block hc]; exact macA_ptr _ _ hkb
  have HC := Lib.hid hc
  have HKL := Lib.hid hkb
  have HDL := Lib.hid hDl
  have HZZ := Lib.hid hz3
  have HFL := Lib.hid (show [xorB KB 0x5c#8, D].flatten = xorB KB 0x5c#8 ++ D by simp)
  have HFM := Lib.hid (show (xorB KB 0x5c#8 ++ D).length ≤ 140737488355000 by rw [List.length_append, xorB_len, hkb, hDl]; decide)
  have HSK := Lib.hid (show (Try.prog.info? 74).map (·.size) = some (V8 KB).size by rw [V8_size, hkb]; kernel_rfl)
  have HSD := Lib.hid (show (Try.prog.info? 25).map (·.size) = some (V8 D).size by rw [V8_size, hDl]; kernel_rfl)
  have HZD := Lib.hid (show Zr.size = (V8 D).size by rw [V8_size, hDl]; exact HZS32.out)
  have HSZ := Lib.hid (show (Try.prog.info? 25).map (·.size) = some (V8 Z).size by rw [V8_size, hml]; kernel_rfl)
  have HZZ0 := Lib.hid (show Zr.size = (V8 Z).size by rw [V8_size, hml]; exact HZS32.out)
  clear hz32 hzs32 hZr hi35' hz35' hs35' hb35 hW1 hc hh hkb hml hz3 hDl hD hZ2 hm hK
  go_enter Try.func55, Try.ntmps55
  go_upto_region 1 with (fail)
  rw [← HZ32.out, HW1.out]
  clear HW1
  go_wp2_with fail
  refine S2.out.mono ?_
  rintro e w3 ⟨rfl, hb3⟩
  have HC3 := Lib.hid (keepH hb3 HC.out)
  have Z3 := Lib.hid (keepH hb3 z2.out)
  have B3 := Lib.hid (b2.out.trans (hb3.mono b2.out.size))
  clear S2 hb3 HC z2 b2 q
  go_upto_region 6 with (first | ((with_reducible show wpList _ _ _ (⟨none, .store 25 (.tmp 4) (.tmp 22), _, _, _, _⟩ :: _) _ _); rw [← HZ32.out]; refine wpList_store_row rfl 25 (.tmp 4) (.tmp 22) rfl w3.heap.size (V8 D) rfl rfl 25 _ (heap_new _ _ _ rfl) HSD.out HZD.out (V8_one _) ?_) | fail)
  generalize hW4 : (World.setRow _ _ _) = W4
  obtain ⟨g4, hg4⟩ : ∃ g, w3.heap.size = g := ⟨_, rfl⟩
  have b4 : Below w3.heap.size w3 W4 := by rw [← hW4]; exact below_setRow _ _ ((Below.refl _ _).alloc (Nat.le_refl _) _) (Nat.le_refl _)
  have D6 := Lib.hid (EqN.arr (show W4.heap[g4]? = some (.cells (V8 D) 25 (0, 0)) by rw [← hW4, ← hg4]; exact setRow_heap _ _ _ _ _ _ (heap_new _ _ _ rfl)) 32 HDL.out (by decide))
  have HG := Lib.hid (keepH b4 HC3.out)
  have Z4 := Lib.hid (keepH b4 Z3.out)
  have B4 := Lib.hid (B3.out.trans (b4.mono B3.out.size))
  have hi35 := HI35.out
  have hz35 := HZ35.out
  have hs35 := HS35.out
  rw [hg4]
  clear hW4 hg4 b4 HC3 Z3 B3
  refine wp_region_mono (w0 := _) 8 [some 28, some 29, some 30, some 31, some 32, some 33, some 34, some 35] (by kernel_rfl) (by kernel_rfl) (by kernel_rfl) (by kernel_rfl) (of_decide_eq_true (by kernel_rfl)) (by kernel_rfl) (pdMM KB D Z g g4) ?_ ?_ ?_
  · exact pdMM_mono KB D Z g g4
  · intro i hi o w1 b ho hbel hv hstood hsize K hK
    have hc : i = 0 ∨ i = 1 ∨ i = 2 ∨ i = 3 ∨ i = 4 ∨ i = 5 ∨ i = 6 ∨ i = 7 := by omega
    rcases hc with rfl | rfl | rfl | rfl | rfl | rfl | rfl | rfl
    · obtain rfl : (⟨some 28, .move (Operand.tmp 0), _, _, _, _⟩ : Oper) = o := Option.some.inj ho
      refine ask_plain rfl ?_
      have e : b.eval (.tmp 0) = .pointer (some ⟨g, 0, none⟩) := (hstood 0 (by kernel_rfl)).trans rfl
      exact wp_val _ rfl (hK _ _ e (Below.refl _ _))
    · obtain rfl : (⟨some 29, .nilCheck (Operand.tmp 28), _, _, _, _⟩ : Oper) = o := Option.some.inj ho
      refine ask_plain rfl ?_
      have e : b.eval (.tmp 28) = .pointer (some ⟨g, 0, none⟩) := hv 0 28 (by kernel_rfl) (by kernel_rfl) (of_decide_eq_true (by kernel_rfl))
      exact wp_val (.pointer (some ⟨g, 0, none⟩)) (by simp only [execOp, e]; rfl) (hK _ _ rfl (Below.refl _ _))
    · obtain rfl : (⟨some 30, .fieldAddr 76 (Operand.tmp 29) 0, _, _, _, _⟩ : Oper) = o := Option.some.inj ho
      refine ask_plain rfl ?_
      have e : b.eval (.tmp 29) = .pointer (some ⟨g, 0, none⟩) := hv 1 29 (by kernel_rfl) (by kernel_rfl) (of_decide_eq_true (by kernel_rfl))
      have hf := field76_0 g w1
      exact wp_val (.pointer (some ⟨g, 0, none⟩)) (by simp [execOp, e, hf]) (hK _ _ rfl (Below.refl _ _))
    · obtain rfl : (⟨some 31, .load 74 (Operand.tmp 30), _, _, _, _⟩ : Oper) = o := Option.some.inj ho
      refine ask_plain rfl ?_
      have e1 : b.eval (.tmp 30) = .pointer (some ⟨g, 0, none⟩) := hv 2 30 (by kernel_rfl) (by kernel_rfl) (of_decide_eq_true (by kernel_rfl))
      exact wp_load_cells 74 (.tmp 30) rfl ⟨g, 0, none⟩ e1 (V8 KB) _ rfl (fun j v hj => by rw [add_zero_off, Joins.cell_of_block ((hbel.block _ (Array.getElem?_eq_some_iff.1 HG.out).1).trans HG.out)]; exact macA_key KB _ HKL.out j v hj) Try.underlying74 HSK.out (hK _ _ rfl (Below.refl _ _))
    · obtain rfl : (⟨some 32, .call { callee := (Callee.value (Operand.func 87)), args := #[(Operand.tmp 31), (Operand.const (Value.int IntKind.u8 92))], argTypes := #[74, 5] }, _, _, _, _⟩ : Oper) = o := Option.some.inj ho
      refine ask_plain rfl ?_
      have e1 : b.eval (.tmp 31) = .agg (V8 KB) := hv 3 31 (by kernel_rfl) (by kernel_rfl) (of_decide_eq_true (by kernel_rfl))
      refine wp_call_fn 87 _ #[74, 5] rfl Try.f87 _ Try.func87 (by kernel_rfl) rfl #[.agg (V8 KB), .int .u8 92] (by simp [e1]; try rfl) ((with_any KB HKL.out 0x5c#8 w1).mono ?_)
      rintro e w2 ⟨v, rfl, hE, hb2⟩
      exact ⟨_, rfl, hK _ _ hE hb2⟩
    · obtain rfl : (⟨some 33, .slice 25 (Operand.tmp 4) none none none, _, _, _, _⟩ : Oper) = o := Option.some.inj ho
      refine ask_plain rfl ?_
      have e : b.eval (.tmp 4) = .pointer (some ⟨g4, 0, none⟩) := (hstood 4 (by kernel_rfl)).trans rfl
      have hf := slice25 ⟨g4, 0, none⟩ w1
      exact wp_val (.slice (some ⟨g4, 0, none⟩) 32 32) (by simp only [execOp, e, hf, Option.map_none, Sem.run_bind, Result.andThen]; rfl) (hK _ _ rfl (Below.refl _ _))
    · obtain rfl : (⟨some 34, .buildSlice 22 2 #[(0, (Operand.tmp 32)), (1, (Operand.tmp 33))], _, _, _, _⟩ : Oper) = o := Option.some.inj ho
      refine ask_plain rfl ?_
      have hE1 : EqN w1 (xorB KB 0x5c#8) (b.eval (.tmp 32)) := hv 4 32 (by kernel_rfl) (by kernel_rfl) (of_decide_eq_true (by kernel_rfl))
      have e2 : b.eval (.tmp 33) = .slice (some ⟨g4, 0, none⟩) 32 32 := hv 5 33 (by kernel_rfl) (by kernel_rfl) (of_decide_eq_true (by kernel_rfl))
      obtain ⟨A1, c1, ev1, _⟩ := id hE1
      refine wp_buildSlice 22 35 2 _ rfl #[b.eval (.tmp 32), .slice (some ⟨g4, 0, none⟩) 32 32] i35 (.slice none 0 0) Try.underlying22 hi35 hz35 (by rw [hs35]; decide) (by rw [hs35]; decide) (by rw [hs35]; simp only [List.map_toArray, List.map_cons, List.map_nil, e2, ev1]; kernel_rfl) (hK _ _ ⟨_, rfl, RdN.new2 w1 (xorB KB 0x5c#8) D _ _ 35 (0, 0) _ rfl hE1 (D6.out.below hbel)⟩ (below_alloc1 _ _))
    · obtain rfl : (⟨some 35, .call { callee := (Callee.value (Operand.func 25)), args := #[(Operand.tmp 34)], argTypes := #[22] }, _, _, _, _⟩ : Oper) = o := Option.some.inj ho
      refine ask_plain rfl ?_
      obtain ⟨gg, e1, hr2⟩ : ∃ g, b.eval (.tmp 34) = .slice (some ⟨g, 0, none⟩) 2 2 ∧ RdN w1 (some ⟨g, 0, none⟩) [xorB KB 0x5c#8, D] := hv 6 34 (by kernel_rfl) (by kernel_rfl) (of_decide_eq_true (by kernel_rfl))
      have hcall := sum_any [xorB KB 0x5c#8, D] (some ⟨gg, 0, none⟩) 2 w1 hr2 (by simp) (by rw [HFL.out]; exact HFM.out)
      rw [HFL.out, HZZ.out] at hcall
      refine wp_call_fn 25 #[.tmp 34] #[22] rfl Try.f25 _ Try.func25 (by kernel_rfl) rfl #[.slice (some ⟨gg, 0, none⟩) 2 2] (by simp [e1]) (hcall.mono ?_)
      rintro e w2 ⟨rfl, hb2⟩
      exact ⟨_, rfl, hK _ _ rfl hb2⟩
  · intro vs w5 hp hb5
    have v0 : vs 0 = .pointer (some ⟨g, 0, none⟩) := hp 0 (by decide)
    have v1 : vs 1 = .pointer (some ⟨g, 0, none⟩) := hp 1 (by decide)
    have v2 : vs 2 = .pointer (some ⟨g, 0, none⟩) := hp 2 (by decide)
    have v3 : vs 3 = .agg (V8 KB) := hp 3 (by decide)
    have v5 : vs 5 = .slice (some ⟨g4, 0, none⟩) 32 32 := hp 5 (by decide)
    have v7 : vs 7 = .agg (V8 Z) := hp 7 (by decide)
    have Z5 := Lib.hid (keepH hb5 Z4.out)
    have B5 := Lib.hid (B4.out.trans (hb5.mono B4.out.size))
    change wpList _ _ _ [_, _] _ _
    simp only [putD, Act.put, List.setIfInBounds_toArray, List.set_cons_zero, List.set_cons_succ, v0, v1, v2, v3, v5, v7]
    generalize vs 4 = x4, vs 6 = x6
    clear v0 v1 v2 v3 v5 v7 hp hb5 Z4 B4
    go_wp2_with (first | ((with_reducible show wpList _ _ _ (⟨none, .store 25 (.tmp 2) (.tmp 35), _, _, _, _⟩ :: _) _ _); refine wpList_store_row rfl 25 (.tmp 2) (.tmp 35) rfl w.heap.size (V8 Z) rfl rfl 25 _ Z5.out HSZ.out HZZ0.out (V8_one _) ?_) | fail)
    have gz := setRow_heap w5 w.heap.size _ (V8 Z) _ _ Z5.out
    have hrv := run_loadVar_row (P := Try.prog) (w5.setRow w.heap.size (V8 Z)) w.heap.size 25 25 (V8 Z) (0, 0) _ gz Try.underlying25 rfl HSZ.out
    exact bodyPost_ret (v := .tuple #[.agg (V8 Z), .int .i64 0]) (by simp [results, Try.results55, asAddr, hrv, Act.put]) rfl ⟨rfl, below_setRow _ _ B5.out (Nat.le_refl _)⟩
theorem mac_fold (k : By) (h : Nat) (hk : k.length = 64) (F : Array Value) (hF : Array.foldl (fun (cs : Array Value) (x : Value × Nat) => cs.setIfInBounds x.snd x.fst) Try.zeroCells76 (V8 k).zipIdx 0 64 = F) : F.size = 65 ∧ F.setIfInBounds 64 (.pointer (some ⟨h, 0, none⟩)) = macA k h := by
  have hz : Try.zeroCells76.size = 65 := by kernel_rfl
  obtain ⟨Z, hZ⟩ : ∃ Z, Try.zeroCells76 = Z := ⟨_, rfl⟩
  rw [hZ] at hz hF
  have s1 : (V8 k).size = 64 := by rw [V8_size, hk]
  have s2 : (V8 k).zipIdx.size = 64 := by rw [Array.size_zipIdx, s1]
  obtain ⟨f1, f2⟩ := Go.Great.foldl_set 0 (V8 k).toList 0 Z
  have e1 : (V8 k).toList.zipIdx.foldl (fun cs (x : Value × Nat) => cs.setIfInBounds (0 + x.snd) x.fst) Z = F := by
    rw [← hF, ← Array.toList_zipIdx, Array.foldl_toList, s2]
    simp only [Nat.zero_add]
  rw [e1] at f1 f2
  refine ⟨by rw [f1, hz], ?_⟩
  apply Array.ext_getElem?
  intro j
  by_cases hj : j = 64
  · subst hj
    rw [macA_ptr k h hk, Array.getElem?_setIfInBounds_self_of_lt (by omega)]
  · rw [Array.getElem?_setIfInBounds_ne (by omega), f2 j]
    by_cases hlt : j < 64
    · rw [if_pos ⟨by omega, by rw [Array.length_toList, s1]; omega, by omega⟩]
      unfold macA
      rw [Array.getElem?_append_left (by omega)]
      simp
    · rw [if_neg (by rw [Array.length_toList, s1]; omega), Array.getElem?_eq_none (by omega), Array.getElem?_eq_none (by rw [macA_size k h hk]; omega)]
set_option maxRecDepth 100000 in
set_option maxHeartbeats 4000000 in
theorem mnew_any (k : By) (kv : Value) (w : World) (hk : EqN w k kv) (hkl : k.length ≤ 1000000) : Calls Try.prog 57 #[kv] w fun e w' => ∃ g h, e = .returned (.pointer (some ⟨g, 0, none⟩)) ∧ MacAt w' g h k [] ∧ Below w.heap.size w w' ∧ w.heap.size ≤ g ∧ w.heap.size ≤ h := by
  have OF := Lib.hid (of_any k kv w hk hkl)
  have hkb := keyB_len k
  obtain ⟨KB, hK⟩ : ∃ K, keyB k = K := ⟨_, rfl⟩
  rw [hK] at hkb OF
  have HKL := Lib.hid hkb
  have HKB := Lib.hid hK
  have HSK := Lib.hid (show (Try.prog.info? 74).map (·.size) = some (V8 KB).size by rw [V8_size, hkb]; kernel_rfl)
  clear hk hkl hkb hK
  go_enter Try.func57, Try.ntmps57
  go_wp2_with fail
  refine OF.out.mono ?_
  rintro e w2 ⟨rfl, hb2⟩
  have B2 := Lib.hid hb2
  clear OF hb2
  go_wp2_with fail
  refine (new_any w2).mono ?_
  rintro e w3 ⟨rfl, hn3, hb3⟩
  have hat := hash_empty hn3
  obtain ⟨h, hh⟩ : ∃ h, w2.heap.size + 1 = h := ⟨_, rfl⟩
  rw [hh] at hat ⊢
  have HH3 := Lib.hid hat
  have B3 := Lib.hid (B2.out.trans (hb3.mono B2.out.size))
  have hsz2 := B2.out.size
  have HHG := Lib.hid (show w.heap.size ≤ h by omega)
  have hs64 : (V8 KB).size = 64 := by rw [V8_size, HKL.out]
  obtain ⟨F, hF⟩ : ∃ F, Array.foldl (fun (cs : Array Value) (x : Value × Nat) => cs.setIfInBounds x.snd x.fst) Try.zeroCells76 (V8 KB).zipIdx 0 64 = F := ⟨_, rfl⟩
  obtain ⟨hFs, hFm⟩ := mac_fold KB h HKL.out F hF
  obtain ⟨MC, hMC⟩ : ∃ c, macA KB h = c := ⟨_, rfl⟩
  rw [hMC] at hFm
  have HMC := Lib.hid hMC
  clear hn3 hb3 hat hh B2 hsz2 hMC
  go_upto_region 2 with (fail)
  clear hF hFs hFm hs64
  obtain ⟨g, hg⟩ : ∃ g, w3.heap.size = g := ⟨_, rfl⟩
  obtain ⟨W4, hW4⟩ : ∃ W, w3.alloc (.cells MC 76) = W := ⟨_, rfl⟩
  have HG := Lib.hid (show W4.heap[g]? = some (.cells (macA KB h) 76 (0, 0)) by rw [← hW4, ← hg, HMC.out]; exact heap_new _ _ _ rfl)
  have HQ := Lib.hid (show W4.cell? ⟨g, 64, none⟩ = some (.pointer (some ⟨h, 0, none⟩)) by rw [Joins.cell_of_block HG.out]; exact macA_ptr _ _ HKL.out)
  have HH4 := Lib.hid (show HashAt W4 h [] by rw [← hW4]; exact HH3.out.below (below_alloc1 _ _))
  have B4 := Lib.hid (show Below w.heap.size w W4 by rw [← hW4]; exact B3.out.alloc B3.out.size _)
  have HNE := Lib.hid (show g ≠ h by
    obtain ⟨lv, hc, _⟩ := HH3.out
    have := (Array.getElem?_eq_some_iff.1 hc).1
    omega)
  have HGG := Lib.hid (show w.heap.size ≤ g by rw [← hg]; exact B3.out.size)
  rw [hW4, hg]
  clear hW4 hg HH3 B3 HMC
  refine wp_region_mono (w0 := _) 9 [some 9, some 10, some 11, some 12, some 13, some 14, some 15, some 16, some 17] (by kernel_rfl) (by kernel_rfl) (by kernel_rfl) (by kernel_rfl) (of_decide_eq_true (by kernel_rfl)) (by kernel_rfl) (pdMN KB g h) ?_ ?_ ?_
  · exact pdMN_mono KB g h
  · intro i hi o w1 b ho hbel hv hstood hsize K hK
    have hc : i = 0 ∨ i = 1 ∨ i = 2 ∨ i = 3 ∨ i = 4 ∨ i = 5 ∨ i = 6 ∨ i = 7 ∨ i = 8 := by omega
    rcases hc with rfl | rfl | rfl | rfl | rfl | rfl | rfl | rfl | rfl
    · obtain rfl : (⟨some 9, .move (Operand.tmp 3), _, _, _, _⟩ : Oper) = o := Option.some.inj ho
      refine ask_plain rfl ?_
      have e : b.eval (.tmp 3) = .pointer (some ⟨g, 0, none⟩) := (hstood 3 (by kernel_rfl)).trans rfl
      exact wp_val _ rfl (hK _ _ e (Below.refl _ _))
    · obtain rfl : (⟨some 10, .nilCheck (Operand.tmp 9), _, _, _, _⟩ : Oper) = o := Option.some.inj ho
      refine ask_plain rfl ?_
      have e : b.eval (.tmp 9) = .pointer (some ⟨g, 0, none⟩) := hv 0 9 (by kernel_rfl) (by kernel_rfl) (of_decide_eq_true (by kernel_rfl))
      exact wp_val (.pointer (some ⟨g, 0, none⟩)) (by simp only [execOp, e]; rfl) (hK _ _ rfl (Below.refl _ _))
    · obtain rfl : (⟨some 11, .fieldAddr 76 (Operand.tmp 10) 1, _, _, _, _⟩ : Oper) = o := Option.some.inj ho
      refine ask_plain rfl ?_
      have e : b.eval (.tmp 10) = .pointer (some ⟨g, 0, none⟩) := hv 1 10 (by kernel_rfl) (by kernel_rfl) (of_decide_eq_true (by kernel_rfl))
      have hf := field76_1 g w1
      exact wp_val (.pointer (some ⟨g, 64, none⟩)) (by simp [execOp, e, hf]) (hK _ _ rfl (Below.refl _ _))
    · obtain rfl : (⟨some 12, .load 52 (Operand.tmp 11), _, _, _, _⟩ : Oper) = o := Option.some.inj ho
      refine ask_plain rfl ?_
      have e : b.eval (.tmp 11) = .pointer (some ⟨g, 64, none⟩) := hv 2 11 (by kernel_rfl) (by kernel_rfl) (of_decide_eq_true (by kernel_rfl))
      have hq := (hbel.cell (World.block_lt_of_cell? _ _ HQ.out)).trans HQ.out
      exact wp_val (.pointer (some ⟨h, 0, none⟩)) (by simp only [execOp, e]; exact load52 _ _ _ hq) (hK _ _ rfl (Below.refl _ _))
    · obtain rfl : (⟨some 13, .move (Operand.tmp 3), _, _, _, _⟩ : Oper) = o := Option.some.inj ho
      refine ask_plain rfl ?_
      have e : b.eval (.tmp 3) = .pointer (some ⟨g, 0, none⟩) := (hstood 3 (by kernel_rfl)).trans rfl
      exact wp_val _ rfl (hK _ _ e (Below.refl _ _))
    · obtain rfl : (⟨some 14, .nilCheck (Operand.tmp 13), _, _, _, _⟩ : Oper) = o := Option.some.inj ho
      refine ask_plain rfl ?_
      have e : b.eval (.tmp 13) = .pointer (some ⟨g, 0, none⟩) := hv 4 13 (by kernel_rfl) (by kernel_rfl) (of_decide_eq_true (by kernel_rfl))
      exact wp_val (.pointer (some ⟨g, 0, none⟩)) (by simp only [execOp, e]; rfl) (hK _ _ rfl (Below.refl _ _))
    · obtain rfl : (⟨some 15, .fieldAddr 76 (Operand.tmp 14) 0, _, _, _, _⟩ : Oper) = o := Option.some.inj ho
      refine ask_plain rfl ?_
      have e : b.eval (.tmp 14) = .pointer (some ⟨g, 0, none⟩) := hv 5 14 (by kernel_rfl) (by kernel_rfl) (of_decide_eq_true (by kernel_rfl))
      have hf := field76_0 g w1
      exact wp_val (.pointer (some ⟨g, 0, none⟩)) (by simp [execOp, e, hf]) (hK _ _ rfl (Below.refl _ _))
    · obtain rfl : (⟨some 16, .load 74 (Operand.tmp 15), _, _, _, _⟩ : Oper) = o := Option.some.inj ho
      refine ask_plain rfl ?_
      have e1 : b.eval (.tmp 15) = .pointer (some ⟨g, 0, none⟩) := hv 6 15 (by kernel_rfl) (by kernel_rfl) (of_decide_eq_true (by kernel_rfl))
      exact wp_load_cells 74 (.tmp 15) rfl ⟨g, 0, none⟩ e1 (V8 KB) _ rfl (fun j v hj => by rw [add_zero_off, Joins.cell_of_block ((hbel.block _ (Array.getElem?_eq_some_iff.1 HG.out).1).trans HG.out)]; exact macA_key KB _ HKL.out j v hj) Try.underlying74 HSK.out (hK _ _ rfl (Below.refl _ _))
    · obtain rfl : (⟨some 17, .call { callee := (Callee.value (Operand.func 87)), args := #[(Operand.tmp 16), (Operand.const (Value.int IntKind.u8 54))], argTypes := #[74, 5] }, _, _, _, _⟩ : Oper) = o := Option.some.inj ho
      refine ask_plain rfl ?_
      have e1 : b.eval (.tmp 16) = .agg (V8 KB) := hv 7 16 (by kernel_rfl) (by kernel_rfl) (of_decide_eq_true (by kernel_rfl))
      refine wp_call_fn 87 _ #[74, 5] rfl Try.f87 _ Try.func87 (by kernel_rfl) rfl #[.agg (V8 KB), .int .u8 54] (by simp [e1]; try rfl) ((with_any KB HKL.out 0x36#8 w1).mono ?_)
      rintro e w2 ⟨v, rfl, hE, hb2⟩
      exact ⟨_, rfl, hK _ _ hE hb2⟩
  · intro vs w5 hp hb5
    have v0 : vs 0 = .pointer (some ⟨g, 0, none⟩) := hp 0 (by decide)
    have v1 : vs 1 = .pointer (some ⟨g, 0, none⟩) := hp 1 (by decide)
    have v2 : vs 2 = .pointer (some ⟨g, 64, none⟩) := hp 2 (by decide)
    have v3 : vs 3 = .pointer (some ⟨h, 0, none⟩) := hp 3 (by decide)
    have v4 : vs 4 = .pointer (some ⟨g, 0, none⟩) := hp 4 (by decide)
    have v5 : vs 5 = .pointer (some ⟨g, 0, none⟩) := hp 5 (by decide)
    have v6 : vs 6 = .pointer (some ⟨g, 0, none⟩) := hp 6 (by decide)
    have v7 : vs 7 = .agg (V8 KB) := hp 7 (by decide)
    have v8 : EqN w5 (xorB KB 0x36#8) (vs 8) := hp 8 (by decide)
    have WR := Lib.hid (hwrite_any h [] (xorB KB 0x36#8) (vs 8) w5 (HH4.out.below hb5) v8 (by rw [xorB_len, HKL.out]; decide))
    have HG5 := Lib.hid (keepH hb5 HG.out)
    have B5 := Lib.hid (B4.out.trans (hb5.mono B4.out.size))
    have hgl : g < w5.heap.size := (Array.getElem?_eq_some_iff.1 HG5.out).1
    change wpList _ _ _ [_] _ _
    simp only [putD, Act.put, List.setIfInBounds_toArray, List.set_cons_zero, List.set_cons_succ, v0, v1, v2, v3, v4, v5, v6, v7]
    generalize vs 8 = x8 at WR
    clear v0 v1 v2 v3 v4 v5 v6 v7 v8 hp hb5 HG HQ HH4 B4
    go_wp2_with fail
    refine WR.out.mono ?_
    rintro e w6 ⟨rfl, h6, b6⟩
    have HM := Lib.hid (show MacAt w6 g h k [] from ⟨by rw [b6.block g hgl HNE.out, HKB.out]; exact HG5.out, by rw [HKB.out, List.append_nil]; exact h6, HNE.out⟩)
    have B6 := Lib.hid (B5.out.trans (b6.to_below HHG.out B5.out.size))
    clear WR h6 b6 HG5 B5
    go_wp2
    go_ret
    exact ⟨g, h, rfl, HM.out, B6.out, HGG.out, HHG.out⟩
end Go.Proofs.Ytjaakhjfpigdfaa
