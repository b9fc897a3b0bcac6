import Derived.Test.YtjaakhjfpigdfaaCA
/-! Seal, both. -/
namespace Go.Proofs.Ytjaakhjfpigdfaa
open Go.RowKit
set_option linter.unusedVariables false
set_option linter.unusedSimpArgs false
theorem own_mono {w : World} {base base' n size : Nat} {e : TypeId} {v : Value} {xs : List Value} (h : w.ownsRow base e size v n xs) (hb : base' ≤ base) : w.ownsRow base' e size v n xs :=
  ⟨h.1, h.2.imp id fun ⟨g, cap, cur, e1, hg, r⟩ => ⟨g, cap, cur, e1, Nat.le_trans hb hg, r⟩⟩
def pdSE (bv : Value) (b Z : By) (g5 B : Nat) : Nat → Value → World → Prop
  | 0 => fun v w => ∃ g, v = .slice (some ⟨g, 0, none⟩) 0 0 ∧ B ≤ g ∧ w.heap[g]? = some (.cells #[] 5 (0, 0))
  | 1 => fun v w => v = bv
  | 2 => fun v w => w.ownsRow B 5 1 v b.length (bytesV b)
  | 3 => fun v w => v = .slice (some ⟨g5, 0, none⟩) 32 32
  | 4 => fun v w => w.ownsRow B 5 1 v (b.length + Z.length) (bytesV b ++ bytesV Z)
  | _ => fun _ _ => True
theorem pdSE_mono (bv : Value) (b Z : By) (g5 B : Nat) : ∀ q0 v w w', pdSE bv b Z g5 B q0 v w → Below w.heap.size w w' → pdSE bv b Z g5 B q0 v w'
  | 0, _, _, _, h, hb => by obtain ⟨g, e, h1, h2⟩ := h; exact ⟨g, e, h1, keepH hb h2⟩
  | 1, _, _, _, h, _ => h
  | 2, _, _, _, h, hb => own_below h hb
  | 3, _, _, _, h, _ => h
  | 4, _, _, _, h, hb => own_below h hb
  | _ + 5, _, _, _, _, _ => trivial
set_option maxRecDepth 100000 in
set_option maxHeartbeats 4000000 in
theorem seal_any (k : By) (kv : Value) (b : By) (bv : Value) (w : World) (hk : EqN w k kv) (hkl : k.length ≤ 1000000) (hb : EqN w b bv) (hbl : b.length ≤ 1000000) : Calls Try.prog 53 #[kv, bv] w fun e w' => ∃ v, e = .returned v ∧ w'.ownsRow w.heap.size 5 1 v (b ++ macL k b).length (bytesV (b ++ macL k b)) ∧ Below w.heap.size w w' := by
  have hz32 := zeros32
  have hzs32 : (V8 (List.replicate 32 0)).size = 32 := by rw [V8_size]; rfl
  obtain ⟨Zr, hZr⟩ : ∃ Z, V8 (List.replicate 32 0) = Z := ⟨_, rfl⟩
  rw [hZr] at hz32 hzs32
  have HZ32 := Lib.hid hz32
  obtain ⟨i5, hi5', h51, h52, h53⟩ := info_parts info5
  have HI5 := Lib.hid hi5'
  have S := Lib.hid (msum1_any k kv b bv w hk hkl hb hbl)
  have hml := macL_len k b
  obtain ⟨Z, hZ2⟩ : ∃ Z, macL k b = Z := ⟨_, rfl⟩
  rw [hZ2] at hml S ⊢
  have HZL := Lib.hid hml
  have HSZ := Lib.hid (show (Try.prog.info? 25).map (·.size) = some (V8 Z).size by rw [V8_size, hml]; kernel_rfl)
  have HZZ := Lib.hid (show Zr.size = (V8 Z).size by rw [V8_size, hml, hzs32])
  have HEB := Lib.hid hb
  have HBL := Lib.hid hbl
  obtain ⟨a1, n1, c1, hbv⟩ := hb.form
  subst hbv
  clear hz32 hzs32 hZr hk hb hml hZ2 h51 h52 h53 hi5' hbl
  go_enter Try.func53, Try.ntmps53
  go_wp2_with fail
  refine S.out.mono ?_
  rintro e w3 ⟨rfl, hb3⟩
  have HB3 := Lib.hid hb3
  clear hb3 S
  go_upto_region 2 with (first | ((with_reducible show wpList _ _ _ (⟨none, .store 25 (.tmp 5) (.tmp 9), _, _, _, _⟩ :: _) _ _); rw [← HZ32.out]; refine wpList_store_row rfl 25 (.tmp 5) (.tmp 9) rfl w3.heap.size (V8 Z) rfl rfl 25 _ (heap_new _ _ _ rfl) HSZ.out HZZ.out (V8_one _) ?_) | fail)
  generalize hW4 : (World.setRow _ _ _) = W4
  obtain ⟨g5, hg5⟩ : ∃ g, w3.heap.size = g := ⟨_, rfl⟩
  have b4 : Below w3.heap.size w3 W4 := by rw [← hW4]; exact below_setRow _ _ ((Below.refl _ _).alloc (Nat.le_refl _) _) (Nat.le_refl _)
  have HZV := Lib.hid (EqN.arr (show W4.heap[g5]? = some (.cells (V8 Z) 25 (0, 0)) by rw [← hW4, ← hg5]; exact setRow_heap _ _ _ _ _ _ (heap_new _ _ _ rfl)) 32 HZL.out (by decide))
  have HB4 := Lib.hid (HB3.out.trans (b4.mono HB3.out.size))
  have HBV := Lib.hid (HEB.out.below HB4.out)
  obtain ⟨bv, hbv⟩ : ∃ v, Value.slice a1 n1 c1 = v := ⟨_, rfl⟩
  rw [hbv] at HBV ⊢
  rw [hg5]
  clear hW4 hg5 b4 HB3 hbv HEB
  refine wp_region_use (w0 := _) 5 [some 10, some 11, some 12, some 13, some 14] (by kernel_rfl) (by kernel_rfl) (by kernel_rfl) (by kernel_rfl) (of_decide_eq_true (by kernel_rfl)) (by kernel_rfl) (pdSE bv b Z g5 W4.heap.size) (fun i k => (i == 2 && k == 0) || (i == 4 && (k == 0 || k == 2))) (by kernel_rfl) ?_ ?_
  · intro ix hix o w1 b9 ho hbel hv hstood hsize K hK0
    have hK : ∀ u w', pdSE bv b Z g5 W4.heap.size ix u w' → Below w1.heap.size w1 w' → K (b9.put o.dst u) w' := fun u w' h hb => hK0 u w' h (fun k v _ _ _ h2 => pdSE_mono bv b Z g5 W4.heap.size k v _ _ h2 hb) (hb.mono hbel.size)
    have hc : ix = 0 ∨ ix = 1 ∨ ix = 2 ∨ ix = 3 ∨ ix = 4 := by omega
    rcases hc with rfl | rfl | rfl | rfl | rfl
    · obtain rfl : (⟨some 10, .buildSlice 35 0 #[], _, _, _, _⟩ : Oper) = o := Option.some.inj ho
      refine ask_plain rfl ?_
      exact wp_buildSlice0 35 5 rfl i5 Try.underlying35 HI5.out (hK _ _ ⟨_, rfl, hbel.size, heap_new _ _ _ rfl⟩ (below_alloc1 _ _))
    · obtain rfl : (⟨some 11, .move (Operand.tmp 1), _, _, _, _⟩ : Oper) = o := Option.some.inj ho
      refine ask_plain rfl ?_
      have e : b9.eval (.tmp 1) = bv := (hstood 1 (by kernel_rfl)).trans rfl
      exact wp_val _ rfl (hK _ _ e (Below.refl _ _))
    · obtain rfl : (⟨some 12, .call { callee := (Callee.builtin Builtin.append), args := #[(Operand.tmp 10), (Operand.tmp 11)], argTypes := #[35, 35] }, _, _, _, _⟩ : Oper) = o := Option.some.inj ho
      refine ask_plain rfl ?_
      obtain ⟨g4, e1, hg4, hz4⟩ : ∃ g, b9.eval (.tmp 10) = .slice (some ⟨g, 0, none⟩) 0 0 ∧ W4.heap.size ≤ g ∧ w1.heap[g]? = some (.cells #[] 5 (0, 0)) := hv 0 10 (by kernel_rfl) (by kernel_rfl) (of_decide_eq_true (by kernel_rfl))
      have e2 : b9.eval (.tmp 11) = bv := hv 1 11 (by kernel_rfl) (by kernel_rfl) (of_decide_eq_true (by kernel_rfl))
      obtain ⟨Ab, cb, eb, hcb, hrb, hnb⟩ := HBV.out.below hbel
      refine wp_append_bytes (.tmp 10) (.tmp 11) rfl W4.heap.size _ 0 [] e1 (own_zero hz4 hg4) Ab cb b (e2.trans eb) hrb hnb hcb (by rw [Nat.zero_add]; have := HBL.out; omega) hbel.size ?_
      intro v' w' hown' hgr _
      rw [List.nil_append, Nat.zero_add] at hown'
      refine hK0 _ _ hown' (fun k v hk hnd hgo h => ?_) ((Below.refl _ _).grown hgr hbel.size (own_base' (own_zero (e := 5) hz4 hg4)))
      match k, h with
      | 0, h => cases hgo
      | 1, h => exact h
      | 2, h => exact absurd rfl hk
      | 3, h => exact h
      | 4, h => (rw [show needsB _ 4 2 = true by kernel_rfl] at hnd; cases hnd)
      | _ + 5, _ => trivial
    · obtain rfl : (⟨some 13, .slice 25 (Operand.tmp 5) none none none, _, _, _, _⟩ : Oper) = o := Option.some.inj ho
      refine ask_plain rfl ?_
      have e : b9.eval (.tmp 5) = .pointer (some ⟨g5, 0, none⟩) := (hstood 5 (by kernel_rfl)).trans rfl
      have hf := slice25 ⟨g5, 0, none⟩ w1
      exact wp_val (.slice (some ⟨g5, 0, none⟩) 32 32) (by simp only [execOp, e, hf, Option.map_none, Sem.run_bind, Result.andThen]; rfl) (hK _ _ rfl (Below.refl _ _))
    · obtain rfl : (⟨some 14, .call { callee := (Callee.builtin Builtin.append), args := #[(Operand.tmp 12), (Operand.tmp 13)], argTypes := #[35, 35] }, _, _, _, _⟩ : Oper) = o := Option.some.inj ho
      refine ask_plain rfl ?_
      have hown : w1.ownsRow W4.heap.size 5 1 (b9.eval (.tmp 12)) b.length (bytesV b) := hv 2 12 (by kernel_rfl) (by kernel_rfl) (of_decide_eq_true (by kernel_rfl))
      have e2 : b9.eval (.tmp 13) = .slice (some ⟨g5, 0, none⟩) 32 32 := hv 3 13 (by kernel_rfl) (by kernel_rfl) (of_decide_eq_true (by kernel_rfl))
      obtain ⟨Az, cz, ez, hcz, hrz, hnz⟩ := HZV.out.below hbel
      rw [HZL.out] at ez
      refine wp_append_bytes (.tmp 12) (.tmp 13) rfl W4.heap.size _ _ _ rfl hown Az cz Z (by rw [HZL.out]; exact e2.trans ez) hrz hnz hcz (by rw [HZL.out]; have := HBL.out; omega) hbel.size ?_
      intro v' w' hown' hgr _
      refine hK0 _ _ hown' (fun k v hk hnd hgo h => ?_) ((Below.refl _ _).grown hgr hbel.size (own_base' hown))
      match k, h with
      | 0, h => cases hgo
      | 1, h => exact h
      | 2, h => cases hgo
      | 3, h => exact h
      | 4, h => exact absurd rfl hk
      | _ + 5, _ => trivial
  · intro vs w9 hp hb9
    have ok : ∀ k, k ∈ [1, 3, 4] → ∀ j, j < 5 → (fun i k => (i == 2 && k == 0) || (i == 4 && (k == 0 || k == 2))) j k = false := by decide
    have v1 : vs 1 = bv := hp 1 (by decide) (ok 1 (by decide))
    have v3 : vs 3 = .slice (some ⟨g5, 0, none⟩) 32 32 := hp 3 (by decide) (ok 3 (by decide))
    have v4 : w9.ownsRow W4.heap.size 5 1 (vs 4) (b.length + Z.length) (bytesV b ++ bytesV Z) := hp 4 (by decide) (ok 4 (by decide))
    rw [← bytesV_app, ← List.length_append] at v4
    have HO := Lib.hid (own_mono v4 HB4.out.size)
    have HB9 := Lib.hid (HB4.out.trans (hb9.mono HB4.out.size))
    change wpList _ _ _ [_] _ _
    simp only [putD, Act.put, List.setIfInBounds_toArray, List.set_cons_zero, List.set_cons_succ, v1, v3]
    generalize vs 4 = x4 at HO
    generalize vs 0 = x0, vs 2 = x2
    clear v1 v3 v4 hp hb9 HB4 ok
    go_wp2
    go_ret
    exact ⟨_, rfl, HO.out, HB9.out⟩
set_option maxRecDepth 100000 in
set_option maxHeartbeats 4000000 in
theorem rseal_any (k : By) (kv : Value) (b : By) (bv : Value) (w : World) (hk : EqN w k kv) (hkl : k.length ≤ 1000000) (hb : EqN w b bv) (hbl : b.length ≤ 1000000) : Calls Try.prog 54 #[kv, bv] w fun e w' => ∃ v, e = .returned v ∧ w'.ownsRow w.heap.size 5 1 v (b ++ macL k b).length (bytesV (b ++ macL k b)) ∧ Below w.heap.size w w' := by
  have hz32 := zeros32
  have hzs32 : (V8 (List.replicate 32 0)).size = 32 := by rw [V8_size]; rfl
  obtain ⟨Zr, hZr⟩ : ∃ Z, V8 (List.replicate 32 0) = Z := ⟨_, rfl⟩
  rw [hZr] at hz32 hzs32
  have HZ32 := Lib.hid hz32
  obtain ⟨i5, hi5', h51, h52, h53⟩ := info_parts info5
  have HI5 := Lib.hid hi5'
  have S := Lib.hid (rmof_any k kv b bv w hk hkl hb hbl)
  have hml := macL_len k b
  obtain ⟨Z, hZ2⟩ : ∃ Z, macL k b = Z := ⟨_, rfl⟩
  rw [hZ2] at hml S ⊢
  have HZL := Lib.hid hml
  have HSZ := Lib.hid (show (Try.prog.info? 25).map (·.size) = some (V8 Z).size by rw [V8_size, hml]; kernel_rfl)
  have HZZ := Lib.hid (show Zr.size = (V8 Z).size by rw [V8_size, hml, hzs32])
  have HEB := Lib.hid hb
  have HBL := Lib.hid hbl
  obtain ⟨a1, n1, c1, hbv⟩ := hb.form
  subst hbv
  clear hz32 hzs32 hZr hk hb hml hZ2 h51 h52 h53 hi5' hbl
  go_enter Try.func54, Try.ntmps54
  go_wp2_with fail
  refine S.out.mono ?_
  rintro e w3 ⟨rfl, hb3⟩
  have HB3 := Lib.hid hb3
  clear hb3 S
  go_upto_region 2 with (first | ((with_reducible show wpList _ _ _ (⟨none, .store 25 (.tmp 5) (.tmp 8), _, _, _, _⟩ :: _) _ _); rw [← HZ32.out]; refine wpList_store_row rfl 25 (.tmp 5) (.tmp 8) rfl w3.heap.size (V8 Z) rfl rfl 25 _ (heap_new _ _ _ rfl) HSZ.out HZZ.out (V8_one _) ?_) | fail)
  generalize hW4 : (World.setRow _ _ _) = W4
  obtain ⟨g5, hg5⟩ : ∃ g, w3.heap.size = g := ⟨_, rfl⟩
  have b4 : Below w3.heap.size w3 W4 := by rw [← hW4]; exact below_setRow _ _ ((Below.refl _ _).alloc (Nat.le_refl _) _) (Nat.le_refl _)
  have HZV := Lib.hid (EqN.arr (show W4.heap[g5]? = some (.cells (V8 Z) 25 (0, 0)) by rw [← hW4, ← hg5]; exact setRow_heap _ _ _ _ _ _ (heap_new _ _ _ rfl)) 32 HZL.out (by decide))
  have HB4 := Lib.hid (HB3.out.trans (b4.mono HB3.out.size))
  have HBV := Lib.hid (HEB.out.below HB4.out)
  obtain ⟨bv, hbv⟩ : ∃ v, Value.slice a1 n1 c1 = v := ⟨_, rfl⟩
  rw [hbv] at HBV ⊢
  rw [hg5]
  clear hW4 hg5 b4 HB3 hbv HEB
  refine wp_region_use (w0 := _) 5 [some 9, some 10, some 11, some 12, some 13] (by kernel_rfl) (by kernel_rfl) (by kernel_rfl) (by kernel_rfl) (of_decide_eq_true (by kernel_rfl)) (by kernel_rfl) (pdSE bv b Z g5 W4.heap.size) (fun i k => (i == 2 && k == 0) || (i == 4 && (k == 0 || k == 2))) (by kernel_rfl) ?_ ?_
  · intro ix hix o w1 b9 ho hbel hv hstood hsize K hK0
    have hK : ∀ u w', pdSE bv b Z g5 W4.heap.size ix u w' → Below w1.heap.size w1 w' → K (b9.put o.dst u) w' := fun u w' h hb => hK0 u w' h (fun k v _ _ _ h2 => pdSE_mono bv b Z g5 W4.heap.size k v _ _ h2 hb) (hb.mono hbel.size)
    have hc : ix = 0 ∨ ix = 1 ∨ ix = 2 ∨ ix = 3 ∨ ix = 4 := by omega
    rcases hc with rfl | rfl | rfl | rfl | rfl
    · obtain rfl : (⟨some 9, .buildSlice 35 0 #[], _, _, _, _⟩ : Oper) = o := Option.some.inj ho
      refine ask_plain rfl ?_
      exact wp_buildSlice0 35 5 rfl i5 Try.underlying35 HI5.out (hK _ _ ⟨_, rfl, hbel.size, heap_new _ _ _ rfl⟩ (below_alloc1 _ _))
    · obtain rfl : (⟨some 10, .move (Operand.tmp 1), _, _, _, _⟩ : Oper) = o := Option.some.inj ho
      refine ask_plain rfl ?_
      have e : b9.eval (.tmp 1) = bv := (hstood 1 (by kernel_rfl)).trans rfl
      exact wp_val _ rfl (hK _ _ e (Below.refl _ _))
    · obtain rfl : (⟨some 11, .call { callee := (Callee.builtin Builtin.append), args := #[(Operand.tmp 9), (Operand.tmp 10)], argTypes := #[35, 35] }, _, _, _, _⟩ : Oper) = o := Option.some.inj ho
      refine ask_plain rfl ?_
      obtain ⟨g4, e1, hg4, hz4⟩ : ∃ g, b9.eval (.tmp 9) = .slice (some ⟨g, 0, none⟩) 0 0 ∧ W4.heap.size ≤ g ∧ w1.heap[g]? = some (.cells #[] 5 (0, 0)) := hv 0 9 (by kernel_rfl) (by kernel_rfl) (of_decide_eq_true (by kernel_rfl))
      have e2 : b9.eval (.tmp 10) = bv := hv 1 10 (by kernel_rfl) (by kernel_rfl) (of_decide_eq_true (by kernel_rfl))
      obtain ⟨Ab, cb, eb, hcb, hrb, hnb⟩ := HBV.out.below hbel
      refine wp_append_bytes (.tmp 9) (.tmp 10) rfl W4.heap.size _ 0 [] e1 (own_zero hz4 hg4) Ab cb b (e2.trans eb) hrb hnb hcb (by rw [Nat.zero_add]; have := HBL.out; omega) hbel.size ?_
      intro v' w' hown' hgr _
      rw [List.nil_append, Nat.zero_add] at hown'
      refine hK0 _ _ hown' (fun k v hk hnd hgo h => ?_) ((Below.refl _ _).grown hgr hbel.size (own_base' (own_zero (e := 5) hz4 hg4)))
      match k, h with
      | 0, h => cases hgo
      | 1, h => exact h
      | 2, h => exact absurd rfl hk
      | 3, h => exact h
      | 4, h => (rw [show needsB _ 4 2 = true by kernel_rfl] at hnd; cases hnd)
      | _ + 5, _ => trivial
    · obtain rfl : (⟨some 12, .slice 25 (Operand.tmp 5) none none none, _, _, _, _⟩ : Oper) = o := Option.some.inj ho
      refine ask_plain rfl ?_
      have e : b9.eval (.tmp 5) = .pointer (some ⟨g5, 0, none⟩) := (hstood 5 (by kernel_rfl)).trans rfl
      have hf := slice25 ⟨g5, 0, none⟩ w1
      exact wp_val (.slice (some ⟨g5, 0, none⟩) 32 32) (by simp only [execOp, e, hf, Option.map_none, Sem.run_bind, Result.andThen]; rfl) (hK _ _ rfl (Below.refl _ _))
    · obtain rfl : (⟨some 13, .call { callee := (Callee.builtin Builtin.append), args := #[(Operand.tmp 11), (Operand.tmp 12)], argTypes := #[35, 35] }, _, _, _, _⟩ : Oper) = o := Option.some.inj ho
      refine ask_plain rfl ?_
      have hown : w1.ownsRow W4.heap.size 5 1 (b9.eval (.tmp 11)) b.length (bytesV b) := hv 2 11 (by kernel_rfl) (by kernel_rfl) (of_decide_eq_true (by kernel_rfl))
      have e2 : b9.eval (.tmp 12) = .slice (some ⟨g5, 0, none⟩) 32 32 := hv 3 12 (by kernel_rfl) (by kernel_rfl) (of_decide_eq_true (by kernel_rfl))
      obtain ⟨Az, cz, ez, hcz, hrz, hnz⟩ := HZV.out.below hbel
      rw [HZL.out] at ez
      refine wp_append_bytes (.tmp 11) (.tmp 12) rfl W4.heap.size _ _ _ rfl hown Az cz Z (by rw [HZL.out]; exact e2.trans ez) hrz hnz hcz (by rw [HZL.out]; have := HBL.out; omega) hbel.size ?_
      intro v' w' hown' hgr _
      refine hK0 _ _ hown' (fun k v hk hnd hgo h => ?_) ((Below.refl _ _).grown hgr hbel.size (own_base' hown))
      match k, h with
      | 0, h => cases hgo
      | 1, h => exact h
      | 2, h => cases hgo
      | 3, h => exact h
      | 4, h => exact absurd rfl hk
      | _ + 5, _ => trivial
  · intro vs w9 hp hb9
    have ok : ∀ k, k ∈ [1, 3, 4] → ∀ j, j < 5 → (fun i k => (i == 2 && k == 0) || (i == 4 && (k == 0 || k == 2))) j k = false := by decide
    have v1 : vs 1 = bv := hp 1 (by decide) (ok 1 (by decide))
    have v3 : vs 3 = .slice (some ⟨g5, 0, none⟩) 32 32 := hp 3 (by decide) (ok 3 (by decide))
    have v4 : w9.ownsRow W4.heap.size 5 1 (vs 4) (b.length + Z.length) (bytesV b ++ bytesV Z) := hp 4 (by decide) (ok 4 (by decide))
    rw [← bytesV_app, ← List.length_append] at v4
    have HO := Lib.hid (own_mono v4 HB4.out.size)
    have HB9 := Lib.hid (HB4.out.trans (hb9.mono HB4.out.size))
    change wpList _ _ _ [_] _ _
    simp only [putD, Act.put, List.setIfInBounds_toArray, List.set_cons_zero, List.set_cons_succ, v1, v3]
    generalize vs 4 = x4 at HO
    generalize vs 0 = x0, vs 2 = x2
    clear v1 v3 v4 hp hb9 HB4 ok
    go_wp2
    go_ret
    exact ⟨_, rfl, HO.out, HB9.out⟩
end Go.Proofs.Ytjaakhjfpigdfaa
