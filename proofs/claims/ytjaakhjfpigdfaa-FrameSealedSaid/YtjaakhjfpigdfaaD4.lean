import Derived.Test.YtjaakhjfpigdfaaD3
/-! Open, both. -/
namespace Go.Proofs.Ytjaakhjfpigdfaa
open Go.RowKit
set_option linter.unusedVariables false
set_option linter.unusedSimpArgs false
/-- What is opened of some bytes; the answer's number. -/
def bodyOf (b : By) : By := b.take (b.length - 32)
def tagOf (b : By) : By := b.drop (b.length - 32)
def openB (k b : By) : By := if b.length < 32 then [] else if macL k (bodyOf b) = tagOf b then bodyOf b else []
def openE (k b : By) : Int := if b.length < 32 then 11 else if macL k (bodyOf b) = tagOf b then 0 else 40
theorem body_tag (b : By) : bodyOf b ++ tagOf b = b := List.take_append_drop _ _
theorem strV_inj (p q : By) : (strV p = strV q) ↔ p = q := by
  constructor
  · intro h
    have h2 := congrArg (fun s => s.data.toList) h
    unfold strV at h2
    rw [strOfNums_data, strOfNums_data, List.map_map, List.map_map] at h2
    have key : ∀ x : BitVec 8, BitVec.ofNat 8 (UInt8.ofNat ((x.toNat : Int)).toNat).toNat = x := fun x => by
      have := x.isLt
      apply BitVec.eq_of_toNat_eq
      simp
    have h3 := congrArg (List.map fun (u : UInt8) => BitVec.ofNat 8 u.toNat) h2
    rw [List.map_map, List.map_map] at h3
    have e : ((fun (u : UInt8) => BitVec.ofNat 8 u.toNat) ∘ (fun n : Int => UInt8.ofNat n.toNat) ∘ fun (c : BitVec 8) => (c.toNat : Int)) = id := by funext x; exact key x
    rw [e] at h3
    simpa using h3
  · rintro rfl; rfl
theorem seal_eq (b Z : By) (h : 32 ≤ b.length) (hz : Z.length = 32) : strV (bodyOf b ++ Z) = strV b ↔ Z = tagOf b := by
  rw [strV_inj]
  constructor
  · intro e
    have e2 := e.trans (body_tag b).symm
    exact List.append_cancel_left e2
  · rintro rfl; exact body_tag b
def pdO1 (kv : Value) (A : Option Addr) (n c m : Nat) (bd tg Z : By) (a2 : Addr) (c2 : Nat) : Nat → Value → World → Prop
  | 0 => fun v w => v = kv
  | 1 => fun v w => v = .slice A n c
  | 2 => fun v w => v = .int .i64 (m : Int)
  | 3 => fun v w => v = .slice A m c
  | 4 => fun v w => ∃ g, v = .slice (some ⟨g, 0, none⟩) 1 1 ∧ RdN w (some ⟨g, 0, none⟩) [bd]
  | 5 => fun v w => v = .agg (V8 Z)
  | 6 => fun v w => v = .slice A n c
  | 7 => fun v w => v = .int .i64 (m : Int)
  | 8 => fun v w => v = .slice (some a2) 32 c2
  | 9 => fun v w => v = .pointer (some a2)
  | 10 => fun v w => v = .agg (V8 tg)
  | _ => fun _ _ => True
theorem pdO1_mono (kv : Value) (A : Option Addr) (n c m : Nat) (bd tg Z : By) (a2 : Addr) (c2 : Nat) : ∀ q0 v w w', pdO1 kv A n c m bd tg Z a2 c2 q0 v w → Below w.heap.size w w' → pdO1 kv A n c m bd tg Z a2 c2 q0 v w'
  | 0, _, _, _, h, _ => h
  | 1, _, _, _, h, _ => h
  | 2, _, _, _, h, _ => h
  | 3, _, _, _, h, _ => h
  | 4, _, _, _, h, hb => by obtain ⟨g, e, h2⟩ := h; exact ⟨g, e, h2.below hb⟩
  | 5, _, _, _, h, _ => h
  | 6, _, _, _, h, _ => h
  | 7, _, _, _, h, _ => h
  | 8, _, _, _, h, _ => h
  | 9, _, _, _, h, _ => h
  | 10, _, _, _, h, _ => h
  | _ + 11, _, _, _, _, _ => trivial
def pdO2 (kv v6 : Value) (A : Option Addr) (n c : Nat) (bd b Z : By) : Nat → Value → World → Prop
  | 0 => fun v w => v = kv
  | 1 => fun v w => v = v6
  | 2 => fun v w => EqN w (bd ++ Z) v
  | 3 => fun v w => v = .string (strV (bd ++ Z))
  | 4 => fun v w => v = .slice A n c
  | 5 => fun v w => v = .string (strV b)
  | _ => fun _ _ => True
theorem pdO2_mono (kv v6 : Value) (A : Option Addr) (n c : Nat) (bd b Z : By) : ∀ q0 v w w', pdO2 kv v6 A n c bd b Z q0 v w → Below w.heap.size w w' → pdO2 kv v6 A n c bd b Z q0 v w'
  | 0, _, _, _, h, _ => h
  | 1, _, _, _, h, _ => h
  | 2, _, _, _, h, hb => EqN.below h hb
  | 3, _, _, _, h, _ => h
  | 4, _, _, _, h, _ => h
  | 5, _, _, _, h, _ => h
  | _ + 6, _, _, _, _, _ => trivial
set_option maxRecDepth 100000 in
set_option maxHeartbeats 4000000 in
theorem open_any (k : By) (kv : Value) (b : By) (bv : Value) (w : World) (hk : EqN w k kv) (hkl : k.length ≤ 1000000) (hb : EqN w b bv) (hbl : b.length ≤ 1000000) : Calls Try.prog 51 #[kv, bv] w fun e w' => ∃ v, e = .returned (.tuple #[v, .int .i64 (openE k b)]) ∧ EqN w' (openB k b) v ∧ Below w.heap.size w w' := by
  obtain ⟨i35, hi35', hz35', hs35', hb35⟩ := info_parts info35
  obtain ⟨i5, hi5', h51, h52, h53⟩ := info_parts info5
  have HI35 := Lib.hid hi35'
  have HZ35 := Lib.hid hz35'
  have HS35 := Lib.hid hs35'
  have HI5 := Lib.hid hi5'
  have HKV := Lib.hid hk
  have HKL := Lib.hid hkl
  have HBV := Lib.hid hb
  obtain ⟨A, c, rfl, hc, hr, hn⟩ := hb
  have HR := Lib.hid hr
  have HN := Lib.hid hn
  obtain ⟨n, hbn⟩ : ∃ n, b.length = n := ⟨_, rfl⟩
  have HBN := Lib.hid hbn
  rw [hbn] at hc hbl HBV ⊢
  clear hi35' hz35' hs35' hb35 hi5' h51 h52 h53 hk hr hn hbn hkl
  by_cases h32 : n < 32
  · have HS := Lib.hid (show openE k b = 11 ∧ openB k b = [] by unfold openE openB; rw [HBN.out, if_pos h32, if_pos h32]; exact ⟨rfl, rfl⟩)
    have hI : decide ((n : Int) - 32 < 0) = true := by simp; omega
    go_enter Try.func51, Try.ntmps51
    go_wp2
    exact bodyPost_ret (v := .tuple #[.slice none 0 0, .int .i64 11]) (by simp [results, Try.results51, asAddr, Act.put]) rfl ⟨_, by rw [HS.out.1], by rw [HS.out.2]; exact EqN.nil _, Below.refl _ _⟩
  · obtain ⟨m, hm⟩ : ∃ m, n - 32 = m := ⟨_, rfl⟩
    have hnm : n = m + 32 := by omega
    have hmc : m ≤ c := by omega
    have hmI : (n : Int) - 32 = (m : Int) := by omega
    have hbd := HBV.out
    have HBD := Lib.hid (show EqN w (bodyOf b) (.slice A m c) from by
      unfold bodyOf
      rw [HBN.out, hm]
      have h := HBV.out
      rw [← HBN.out] at h
      exact h.take m (by rw [HBN.out]; omega))
    have hfr := fun w => run_from A n c m (by omega) (by omega) w
    have hdrop := HR.out.drop m c (by rw [HBN.out]; omega) (by rw [HBN.out]; exact hc)
    rw [if_neg (show ¬ c = m by omega)] at hdrop
    simp only [if_neg (show ¬ c = m by omega)] at hfr
    obtain ⟨a0, rfl⟩ : ∃ a, A = some a := by
      obtain ⟨a, e, _⟩ := RdB.at' HR.out 0 (by rw [HBN.out]; omega)
      exact ⟨a, e⟩
    simp only [Option.map_some] at hdrop hfr
    obtain ⟨a2, ha2⟩ : ∃ a, a0.add m = a := ⟨_, rfl⟩
    obtain ⟨c2, hc2⟩ : ∃ a, c - m = a := ⟨_, rfl⟩
    rw [ha2] at hdrop
    rw [ha2, hc2, show n - m = 32 by omega] at hfr
    have htl : (tagOf b).length = 32 := by unfold tagOf; rw [List.length_drop, HBN.out]; omega
    have hbdl : (bodyOf b).length ≤ 1000000 := by unfold bodyOf; rw [List.length_take, HBN.out]; omega
    have htg : RdB w (some a2) (tagOf b) := by unfold tagOf; rw [HBN.out, hm]; exact hdrop
    have HFR := Lib.hid hfr
    have hml := macL_len k (bodyOf b)
    have HOE := Lib.hid (show openE k b = (if macL k (bodyOf b) = tagOf b then 0 else 40) ∧ openB k b = (if macL k (bodyOf b) = tagOf b then bodyOf b else []) by unfold openE openB; rw [HBN.out, if_neg h32, if_neg h32]; exact ⟨rfl, rfl⟩)
    obtain ⟨bd, hbd2⟩ : ∃ q, bodyOf b = q := ⟨_, rfl⟩
    obtain ⟨tg, htg2⟩ : ∃ q, tagOf b = q := ⟨_, rfl⟩
    rw [hbd2] at HBD hbdl hml HOE
    rw [htg2] at htg htl HOE
    obtain ⟨Z, hZ⟩ : ∃ Z, macL k bd = Z := ⟨_, rfl⟩
    rw [hZ] at hml HOE
    have HZ1 := Lib.hid hZ
    have HTG := Lib.hid htg
    have HBDL := Lib.hid hbdl
    have HST := Lib.hid (show (Try.prog.info? 25).map (·.size) = some (V8 tg).size by rw [V8_size, htl]; kernel_rfl)
    have HEQ := Lib.hid (fun w => eq_dig 25 Try.underlying25 Z tg hml htl w)
    have hi35 := HI35.out
    have hz35 := HZ35.out
    have hs35 := HS35.out
    have hdec : decide ((n : Int) - 32 < 0) = false := by rw [hmI]; simp; try omega
    have hdec2 : decide ((m : Int) < 0) = false := by simp; try omega
    have hR0 := HR.out
    have hBDL2 : bd.length = m := by rw [← hbd2]; unfold bodyOf; rw [List.length_take, HBN.out]; omega
    have HBM := Lib.hid hBDL2
    clear hdrop hfr htg htl hbdl hml hZ hbd2 htg2 ha2 hc2 hbd hR0 hBDL2 h32 hm HR HBV
    go_enter Try.func51, Try.ntmps51
    go_upto_region 4 with (fail)
    try rw [hmI]
    clear hdec hmI
    have HNM := Lib.hid hnm
    have hm6 : m ≤ 1000000 := by omega
    clear hnm
    refine wp_region_mono (w0 := _) 11 [some 12, some 13, some 14, some 15, some 16, some 17, some 18, some 19, some 20, some 21, some 22] (by kernel_rfl) (by kernel_rfl) (by kernel_rfl) (by kernel_rfl) (of_decide_eq_true (by kernel_rfl)) (by kernel_rfl) (pdO1 kv (some a0) n c m bd tg Z a2 c2) ?_ ?_ ?_
    · exact pdO1_mono kv (some a0) n c m bd tg Z a2 c2
    · intro i hi o w1 b ho hbel hv hstood hsize K hK
      have hc : i = 0 ∨ i = 1 ∨ i = 2 ∨ i = 3 ∨ i = 4 ∨ i = 5 ∨ i = 6 ∨ i = 7 ∨ i = 8 ∨ i = 9 ∨ i = 10 := by omega
      rcases hc with rfl | rfl | rfl | rfl | rfl | rfl | rfl | rfl | rfl | rfl | rfl
      · obtain rfl : (⟨some 12, .move (Operand.tmp 0), _, _, _, _⟩ : Oper) = o := Option.some.inj ho
        refine ask_plain rfl ?_
        have e : b.eval (.tmp 0) = kv := (hstood 0 (by kernel_rfl)).trans rfl
        exact wp_val _ rfl (hK _ _ e (Below.refl _ _))
      · obtain rfl : (⟨some 13, .move (Operand.tmp 1), _, _, _, _⟩ : Oper) = o := Option.some.inj ho
        refine ask_plain rfl ?_
        have e : b.eval (.tmp 1) = .slice (some a0) n c := (hstood 1 (by kernel_rfl)).trans rfl
        exact wp_val _ rfl (hK _ _ e (Below.refl _ _))
      · obtain rfl : (⟨some 14, .move (Operand.tmp 6), _, _, _, _⟩ : Oper) = o := Option.some.inj ho
        refine ask_plain rfl ?_
        have e : b.eval (.tmp 6) = .int .i64 (m : Int) := (hstood 6 (by kernel_rfl)).trans rfl
        exact wp_val _ rfl (hK _ _ e (Below.refl _ _))
      · obtain rfl : (⟨some 15, .slice 35 (Operand.tmp 13) none (some (Operand.tmp 14)) none, _, _, _, _⟩ : Oper) = o := Option.some.inj ho
        refine ask_plain rfl ?_
        have e1 : b.eval (.tmp 13) = .slice (some a0) n c := hv 1 13 (by kernel_rfl) (by kernel_rfl) (of_decide_eq_true (by kernel_rfl))
        have e2 : b.eval (.tmp 14) = .int .i64 (m : Int) := hv 2 14 (by kernel_rfl) (by kernel_rfl) (of_decide_eq_true (by kernel_rfl))
        have hf := run_take (some a0) n c m hmc w1
        exact wp_val (.slice (some a0) m c) (by simp only [execOp, e1, e2, hf, Option.map_some, Option.map_none, Sem.run_bind, Result.andThen]; rfl) (hK _ _ rfl (Below.refl _ _))
      · obtain rfl : (⟨some 16, .buildSlice 22 1 #[(0, (Operand.tmp 15))], _, _, _, _⟩ : Oper) = o := Option.some.inj ho
        refine ask_plain rfl ?_
        have e2 : b.eval (.tmp 15) = .slice (some a0) m c := hv 3 15 (by kernel_rfl) (by kernel_rfl) (of_decide_eq_true (by kernel_rfl))
        refine wp_buildSlice 22 35 1 _ rfl #[.slice (some a0) m c] i35 (.slice none 0 0) Try.underlying22 hi35 hz35 (by rw [hs35]; decide) (by rw [hs35]; decide) (by rw [hs35]; simp only [List.map_toArray, List.map_cons, List.map_nil, e2]; kernel_rfl) (hK _ _ ⟨_, rfl, RdN.new1 w1 bd (.slice (some a0) m c) 35 (0, 0) _ rfl (HBD.out.below hbel)⟩ (below_alloc1 _ _))
      · obtain rfl : (⟨some 17, .call { callee := (Callee.value (Operand.func 46)), args := #[(Operand.tmp 12), (Operand.tmp 16)], argTypes := #[35, 22] }, _, _, _, _⟩ : Oper) = o := Option.some.inj ho
        refine ask_plain rfl ?_
        have e1 : b.eval (.tmp 12) = kv := hv 0 12 (by kernel_rfl) (by kernel_rfl) (of_decide_eq_true (by kernel_rfl))
        obtain ⟨gg, e2, hr2⟩ : ∃ g, b.eval (.tmp 16) = .slice (some ⟨g, 0, none⟩) 1 1 ∧ RdN w1 (some ⟨g, 0, none⟩) [bd] := hv 4 16 (by kernel_rfl) (by kernel_rfl) (of_decide_eq_true (by kernel_rfl))
        have hcall := msum_any k kv [bd] ⟨gg, 0, none⟩ 1 w1 (HKV.out.below hbel) HKL.out hr2 (by simp) (by simp) (by have := HBDL.out; simp; omega)
        rw [show [bd].flatten = bd by simp, HZ1.out] at hcall
        refine wp_call_fn 46 #[.tmp 12, .tmp 16] #[35, 22] rfl Try.f46 _ Try.func46 (by kernel_rfl) rfl #[kv, .slice (some ⟨gg, 0, none⟩) 1 1] (by simp [e1, e2]) (hcall.mono ?_)
        rintro e w2 ⟨rfl, hb2⟩
        exact ⟨_, rfl, hK _ _ rfl hb2⟩
      · obtain rfl : (⟨some 18, .move (Operand.tmp 1), _, _, _, _⟩ : Oper) = o := Option.some.inj ho
        refine ask_plain rfl ?_
        have e : b.eval (.tmp 1) = .slice (some a0) n c := (hstood 1 (by kernel_rfl)).trans rfl
        exact wp_val _ rfl (hK _ _ e (Below.refl _ _))
      · obtain rfl : (⟨some 19, .move (Operand.tmp 6), _, _, _, _⟩ : Oper) = o := Option.some.inj ho
        refine ask_plain rfl ?_
        have e : b.eval (.tmp 6) = .int .i64 (m : Int) := (hstood 6 (by kernel_rfl)).trans rfl
        exact wp_val _ rfl (hK _ _ e (Below.refl _ _))
      · obtain rfl : (⟨some 20, .slice 35 (Operand.tmp 18) (some (Operand.tmp 19)) none none, _, _, _, _⟩ : Oper) = o := Option.some.inj ho
        refine ask_plain rfl ?_
        have e1 : b.eval (.tmp 18) = .slice (some a0) n c := hv 6 18 (by kernel_rfl) (by kernel_rfl) (of_decide_eq_true (by kernel_rfl))
        have e2 : b.eval (.tmp 19) = .int .i64 (m : Int) := hv 7 19 (by kernel_rfl) (by kernel_rfl) (of_decide_eq_true (by kernel_rfl))
        have hf := HFR.out w1
        exact wp_val (.slice (some a2) 32 c2) (by simp only [execOp, e1, e2, hf, Option.map_some, Option.map_none, Sem.run_bind, Result.andThen]; rfl) (hK _ _ rfl (Below.refl _ _))
      · obtain rfl : (⟨some 21, .sliceToArrayPointer 25 (Operand.tmp 20), _, _, _, _⟩ : Oper) = o := Option.some.inj ho
        refine ask_plain rfl ?_
        have e : b.eval (.tmp 20) = .slice (some a2) 32 c2 := hv 8 20 (by kernel_rfl) (by kernel_rfl) (of_decide_eq_true (by kernel_rfl))
        have hf := run_arrayAt (P := Try.prog) w1 25 5 32 (some a2) 32 c2 Try.underlying25 (Nat.le_refl _)
        exact wp_val (.pointer (some a2)) (by simp [execOp, e, hf]) (hK _ _ rfl (Below.refl _ _))
      · obtain rfl : (⟨some 22, .load 25 (Operand.tmp 21), _, _, _, _⟩ : Oper) = o := Option.some.inj ho
        refine ask_plain rfl ?_
        have e1 : b.eval (.tmp 21) = .pointer (some a2) := hv 9 21 (by kernel_rfl) (by kernel_rfl) (of_decide_eq_true (by kernel_rfl))
        exact wp_load_cells 25 (.tmp 21) rfl a2 e1 (V8 tg) _ rfl (fun j v hj => RdB.v8 (HTG.out.below hbel (fun _ _ h => h)) j v hj) Try.underlying25 HST.out (hK _ _ rfl (Below.refl _ _))
    · intro vs w3 hp hb3
      have v0 : vs 0 = kv := hp 0 (by decide)
      have v1 : vs 1 = .slice (some a0) n c := hp 1 (by decide)
      have v2 : vs 2 = .int .i64 (m : Int) := hp 2 (by decide)
      have v3 : vs 3 = .slice (some a0) m c := hp 3 (by decide)
      have v5 : vs 5 = .agg (V8 Z) := hp 5 (by decide)
      have v6 : vs 6 = .slice (some a0) n c := hp 6 (by decide)
      have v7 : vs 7 = .int .i64 (m : Int) := hp 7 (by decide)
      have v8 : vs 8 = .slice (some a2) 32 c2 := hp 8 (by decide)
      have v9 : vs 9 = .pointer (some a2) := hp 9 (by decide)
      have v10 : vs 10 = .agg (V8 tg) := hp 10 (by decide)
      have HB3 := Lib.hid hb3
      obtain ⟨A', c', e', hc', hr', hn'⟩ := HBD.out.below hb3
      simp only [Value.slice.injEq] at e'
      obtain ⟨rfl, hmm, rfl⟩ := e'
      clear hmm
      have HR3 := Lib.hid hr'
      have HC3 := Lib.hid hc'
      change wpList _ _ _ [_] _ _
      simp only [putD, Act.put, List.setIfInBounds_toArray, List.set_cons_zero, List.set_cons_succ, v0, v1, v2, v3, v5, v6, v7, v8, v9, v10]
      generalize vs 4 = x4
      clear v0 v1 v2 v3 v5 v6 v7 v8 v9 v10 hp hb3 hr' hn' hc'
      by_cases hzt : Z = tg
      · have heq := HEQ.out
        rw [show (Z == tg) = true by simpa using hzt] at heq
        have HS := Lib.hid (show openE k b = 0 ∧ openB k b = bd by rw [HOE.out.1, HOE.out.2, if_pos hzt, if_pos hzt]; exact ⟨rfl, rfl⟩)
        have hrt := run_take (some a0) n c m hmc
        have hmcI : (m : Int) ≤ (c : Int) := by omega
        clear hzt
        go_wp2_with (first | ((with_reducible show wpList _ _ _ (⟨some 24, .buildSlice 35 0 #[], _, _, _, _⟩ :: _) _ _); refine wpList_buildSlice0 rfl 35 5 rfl i5 Try.underlying35 HI5.out ?_; try simp only [Act.put, List.setIfInBounds_toArray, List.set_cons_zero, List.set_cons_succ]; obtain ⟨W4, hW4⟩ : ∃ W, w3.alloc (.cells #[] 5) = W := ⟨_, rfl⟩; have HB4 := Lib.hid (show Below w3.heap.size w3 W4 by rw [← hW4]; exact below_alloc1 _ _); have OZ := Lib.hid (show W4.ownsRow w3.heap.size 5 1 (.slice (some ⟨w3.heap.size, 0, none⟩) 0 0) 0 [] by rw [← hW4]; exact own_zero (heap_new _ _ _ rfl) (Nat.le_refl _)); have HR4 := Lib.hid (show RdB W4 (some a0) bd from HR3.out.below HB4.out (fun _ _ h => h)); rw [hW4]; clear hW4) | (at_builtin; refine wpList_append_bytes rfl (.tmp 24) (.tmp 27) rfl w3.heap.size _ 0 [] rfl OZ.out (some a0) c bd (by rw [HBM.out]; rfl) HR4.out (fun h => by cases h) (by rw [HBM.out]; exact hmc) (by rw [HBM.out]; omega) HB4.out.size ?_; intro v28 w5 hown hgrow _; have hb5 : Below w3.heap.size w3 w5 := HB4.out.trans ((Below.refl _ _).grown hgrow HB4.out.size (own_base' OZ.out)); have HE5 : Hid (EqN w5 bd v28) := Lib.hid (by have h := hown; rw [List.nil_append] at h; exact EqN.own h); have HB5 := Lib.hid hb5; clear hown hgrow hb5) | fail)
        exact bodyPost_ret (v := .tuple #[v28, .int .i64 0]) (by simp [results, Try.results51, asAddr, Act.put]) rfl ⟨_, by rw [HS.out.1], by rw [HS.out.2]; exact HE5.out, HB3.out.trans (HB5.out.mono HB3.out.size)⟩
      · have heq := HEQ.out
        rw [show (Z == tg) = false by simpa using hzt] at heq
        have HS := Lib.hid (show openE k b = 40 ∧ openB k b = [] by rw [HOE.out.1, HOE.out.2, if_neg hzt, if_neg hzt]; exact ⟨rfl, rfl⟩)
        clear hzt
        go_wp2
        exact bodyPost_ret (v := .tuple #[.slice none 0 0, .int .i64 40]) (by simp [results, Try.results51, asAddr, Act.put]) rfl ⟨_, by rw [HS.out.1], by rw [HS.out.2]; exact EqN.nil _, HB3.out⟩
end Go.Proofs.Ytjaakhjfpigdfaa
