import Derived.Test.YtjaakhjfpigdfaaGC
import Derived.Test.YtjaakhjfpigdfaaHA
/-! FrameWrites. -/
namespace Go.Proofs.Ytjaakhjfpigdfaa
open Go.RowKit
set_option linter.unusedVariables false
set_option linter.unusedSimpArgs false
/-- A frame's cells. -/
def frC (f : Fr) (u : Value) : Array Value := #[.int .i64 f.fr, .int .i64 f.ep, .int .u64 (f.me.toNat : Int), .int .u64 (f.you.toNat : Int), .int .i64 f.n, u, .int .i64 f.all, .int .u64 (f.more.toNat : Int)]
theorem frV_C (f : Fr) (u : Value) : frV f u = .agg (frC f u) := rfl
theorem frC_size (f : Fr) (u : Value) : (frC f u).size = 8 := rfl
theorem frC_one {w : World} {p : By} (f : Fr) {u : Value} (h : EqN w p u) : (frC f u).all (·.oneCell') = true := by
  obtain ⟨A, n, c, rfl⟩ := h.form
  exact fr_cells_one f A n c
theorem frC_u8 {w : World} {p : By} (f : Fr) {u : Value} (h : EqN w p u) : ∀ (j : Nat) (x : Int), (frC f u)[j]? ≠ some (.int .u8 x) := by
  obtain ⟨A, n, c, rfl⟩ := h.form
  intro j x hj
  rcases j with _ | _ | _ | _ | _ | _ | _ | _ | j <;> simp [frC] at hj
theorem no_u8 {w : World} {g : Nat} {C : Array Value} {t : TypeId} (h : w.heap[g]? = some (.cells C t (0, 0))) (hn : ∀ (j : Nat) (x : Int), C[j]? ≠ some (.int .u8 x)) : ∀ (ad : Addr) (x : Int), w.cell? ad = some (.int .u8 x) → ad.block ≠ g := by
  intro ad x hc e
  subst e
  unfold World.cell? at hc
  rw [h] at hc
  simp only at hc
  split at hc
  · cases hc
  · exact hn _ _ hc
theorem EqN.two {w : World} {g4 g5 : Nat} {FC GX F2 G2 : Array Value} {p : By} {v : Value} (h : EqN w p v) (h4 : w.heap[g4]? = some (.cells FC 83 (0, 0))) (h5 : w.heap[g5]? = some (.cells GX 83 (0, 0))) (n4 : ∀ (j : Nat) (x : Int), FC[j]? ≠ some (.int .u8 x)) (n5 : ∀ (j : Nat) (x : Int), GX[j]? ≠ some (.int .u8 x)) (hne : g4 ≠ g5) : EqN ((w.setRow g4 F2).setRow g5 G2) p v :=
  (h.bes ((Bes.refl g4 w).setRow F2) (no_u8 h4 n4)).bes ((Bes.refl g5 _).setRow G2) (no_u8 ((setRow_other w g4 g5 _ (Ne.symm hne)).trans h5) n5)
def pdW1 (kv0 : Value) (k3 : By) (FC GX : Array Value) (f1 g1 : Fr) : Nat → Value → World → Prop
  | 0 => fun v w => v = kv0
  | 1 => fun v w => EqN w k3 v
  | 2 => fun v w => v = .agg FC
  | 3 => fun v w => ∃ u, v = frV f1 u ∧ EqN w f1.body u
  | 4 => fun v w => v = .agg GX
  | 5 => fun v w => ∃ u, v = frV g1 u ∧ EqN w g1.body u
  | _ => fun _ _ => True
theorem pdW1_mono (kv0 : Value) (k3 : By) (FC GX : Array Value) (f1 g1 : Fr) : ∀ q0 v w w', pdW1 kv0 k3 FC GX f1 g1 q0 v w → Below w.heap.size w w' → pdW1 kv0 k3 FC GX f1 g1 q0 v w'
  | 0, _, _, _, h, _ => h
  | 1, _, _, _, h, hb => EqN.below h hb
  | 2, _, _, _, h, _ => h
  | 3, _, _, _, h, hb => by obtain ⟨u, e, h2⟩ := h; exact ⟨u, e, h2.below hb⟩
  | 4, _, _, _, h, _ => h
  | 5, _, _, _, h, hb => by obtain ⟨u, e, h2⟩ := h; exact ⟨u, e, h2.below hb⟩
  | _ + 6, _, _, _, _, _ => trivial
def pdW4 (s1 s2 : Value) (SB : By) (E0 : Int) (F2 G2 : Array Value) (sm : Bool) : Nat → Value → World → Prop
  | 0 => fun v w => v = s1
  | 1 => fun v w => v = .string (strV SB)
  | 2 => fun v w => v = s2
  | 3 => fun v w => v = .string (strV SB)
  | 4 => fun v w => v = .bool true
  | 5 => fun v w => v = .bool true
  | 6 => fun v w => v = .int .i64 E0
  | 7 => fun v w => v = .int .i64 E0
  | 8 => fun v w => v = .bool true
  | 9 => fun v w => v = .bool true
  | 10 => fun v w => v = .bool true
  | 11 => fun v w => v = .agg F2
  | 12 => fun v w => v = .int .i64 E0
  | 13 => fun v w => v = .agg F2
  | 14 => fun v w => v = .int .i64 E0
  | 15 => fun v w => v = .bool true
  | 16 => fun v w => v = .bool true
  | 17 => fun v w => v = .bool true
  | 18 => fun v w => v = .agg F2
  | 19 => fun v w => v = .agg G2
  | 20 => fun v w => v = .bool sm
  | 21 => fun v w => v = .agg F2
  | 22 => fun v w => v = .agg G2
  | 23 => fun v w => v = .bool sm
  | 24 => fun v w => v = .bool true
  | 25 => fun v w => v = .bool true
  | 26 => fun v w => v = .bool true
  | 27 => fun v w => v = .agg F2
  | 28 => fun v w => v = .agg F2
  | 29 => fun v w => v = .bool true
  | 30 => fun v w => v = .bool true
  | 31 => fun v w => v = .bool true
  | 32 => fun v w => v = .bool true
  | 33 => fun v w => v = .bool true
  | _ => fun _ _ => True
theorem pdW4_mono (s1 s2 : Value) (SB : By) (E0 : Int) (F2 G2 : Array Value) (sm : Bool) : ∀ q0 v w w', pdW4 s1 s2 SB E0 F2 G2 sm q0 v w → Below w.heap.size w w' → pdW4 s1 s2 SB E0 F2 G2 sm q0 v w'
  | 0, _, _, _, h, _ => h
  | 1, _, _, _, h, _ => h
  | 2, _, _, _, h, _ => h
  | 3, _, _, _, h, _ => h
  | 4, _, _, _, h, _ => h
  | 5, _, _, _, h, _ => h
  | 6, _, _, _, h, _ => h
  | 7, _, _, _, h, _ => h
  | 8, _, _, _, h, _ => h
  | 9, _, _, _, h, _ => h
  | 10, _, _, _, h, _ => h
  | 11, _, _, _, h, _ => h
  | 12, _, _, _, h, _ => h
  | 13, _, _, _, h, _ => h
  | 14, _, _, _, h, _ => h
  | 15, _, _, _, h, _ => h
  | 16, _, _, _, h, _ => h
  | 17, _, _, _, h, _ => h
  | 18, _, _, _, h, _ => h
  | 19, _, _, _, h, _ => h
  | 20, _, _, _, h, _ => h
  | 21, _, _, _, h, _ => h
  | 22, _, _, _, h, _ => h
  | 23, _, _, _, h, _ => h
  | 24, _, _, _, h, _ => h
  | 25, _, _, _, h, _ => h
  | 26, _, _, _, h, _ => h
  | 27, _, _, _, h, _ => h
  | 28, _, _, _, h, _ => h
  | 29, _, _, _, h, _ => h
  | 30, _, _, _, h, _ => h
  | 31, _, _, _, h, _ => h
  | 32, _, _, _, h, _ => h
  | 33, _, _, _, h, _ => h
  | _ + 34, _, _, _, _, _ => trivial
set_option maxRecDepth 100000 in
set_option maxHeartbeats 8000000 in
theorem frameWrites_true (k : By) (A0 : Option Addr) (c0 : Nat) (f : Fr) (Af : Option Addr) (cf : Nat) (g : Fr) (Ag : Option Addr) (cg : Nat) (w : World) (hr : RdB w A0 k) (hc : k.length ≤ c0) (y0 : k.length * 1 ≤ 140737488351232) (hn : A0 = none → c0 = 0) (hrf : RdB w Af f.body) (hlf : f.body.length ≤ cf) (hnf : Af = none → cf = 0) (hrg : RdB w Ag g.body) (hlg : g.body.length ≤ cg) (hng : Ag = none → cg = 0) :
    Calls Try.prog 18 #[.slice A0 k.length c0, frV f (.slice Af f.body.length cf), frV g (.slice Ag g.body.length cg)] w fun e w' => e = .returned (.bool true) ∧ Below w.heap.size w w' := by
  have hk : EqN w k (.slice A0 k.length c0) := ⟨A0, c0, rfl, hc, hr, hn⟩
  have hf : EqN w f.body (.slice Af f.body.length cf) := ⟨Af, cf, rfl, hlf, hrf, hnf⟩
  have hg : EqN w g.body (.slice Ag g.body.length cg) := ⟨Ag, cg, rfl, hlg, hrg, hng⟩
  obtain ⟨kv0, hkv0⟩ : ∃ v, Value.slice A0 k.length c0 = v := ⟨_, rfl⟩
  obtain ⟨uf, huf⟩ : ∃ v, Value.slice Af f.body.length cf = v := ⟨_, rfl⟩
  obtain ⟨ug, hug⟩ : ∃ v, Value.slice Ag g.body.length cg = v := ⟨_, rfl⟩
  rw [hkv0] at hk ⊢
  rw [huf] at hf ⊢
  rw [hug] at hg ⊢
  have n4 := Lib.hid (frC_u8 f hf)
  have n5 := Lib.hid (frC_u8 g hg)
  have LF := fun w' (hb : Below w.heap.size w w') => light_any f uf w' (hf.below hb)
  have LG := fun w' (hb : Below w.heap.size w w') => light_any g ug w' (hg.below hb)
  simp only [frV_C f uf, frV_C g ug] at LF LG ⊢
  have sF := frC_size f uf
  have sG := frC_size g ug
  obtain ⟨FC, hFC⟩ : ∃ F, frC f uf = F := ⟨_, rfl⟩
  obtain ⟨GX, hGX⟩ : ∃ F, frC g ug = F := ⟨_, rfl⟩
  rw [hFC] at n4 sF ⊢
  rw [hGX] at n5 sG ⊢
  simp only [hFC] at LF
  simp only [hGX] at LG
  obtain ⟨f1, hf1⟩ : ∃ q, lightF f = q := ⟨_, rfl⟩
  obtain ⟨g1, hg1⟩ : ∃ q, lightF g = q := ⟨_, rfl⟩
  simp only [hf1] at LF
  simp only [hg1] at LG
  have hkl : (k.take 3000).length ≤ 1000000 := by rw [List.length_take]; omega
  obtain ⟨k3, hk3⟩ : ∃ q, k.take 3000 = q := ⟨_, rfl⟩
  have HK3 := Lib.hid hk3
  rw [hk3] at hkl
  have HKL := Lib.hid hkl
  have x4 := keepH (below_alloc1 _ (.cells GX 83)) (heap_new w (.cells FC 83) w.heap.size rfl)
  have x5 := heap_new (w.alloc (.cells FC 83)) (.cells GX 83) (w.heap.size + 1) (size_alloc _ _).symm
  have b2 : Below w.heap.size w ((w.alloc (.cells FC 83)).alloc (.cells GX 83)) := ((Below.refl _ _).alloc (Nat.le_refl _) _).alloc (by rw [size_alloc]; omega) _
  obtain ⟨W2, hW2⟩ : ∃ W, (w.alloc (.cells FC 83)).alloc (.cells GX 83) = W := ⟨_, rfl⟩
  rw [hW2] at x4 x5 b2
  have HW2 := Lib.hid hW2
  have HKV := Lib.hid (hk.below b2)
  have HLF := Lib.hid (fun w' (hb : Below W2.heap.size W2 w') => LF w' (b2.trans (hb.mono b2.size)))
  have HLG := Lib.hid (fun w' (hb : Below W2.heap.size W2 w') => LG w' (b2.trans (hb.mono b2.size)))
  obtain ⟨g4, hg4⟩ : ∃ q, w.heap.size = q := ⟨_, rfl⟩
  rw [hg4] at x4 x5
  obtain ⟨g5, hg5⟩ : ∃ q, g4 + 1 = q := ⟨_, rfl⟩
  rw [hg5] at x5
  have HG45 := Lib.hid (And.intro hg4 hg5)
  have HX4 := Lib.hid x4
  have HX5 := Lib.hid x5
  have HB2 := Lib.hid b2
  have HNE := Lib.hid (show g4 ≠ g5 by omega)
  have HLE := Lib.hid (show w.heap.size ≤ g4 ∧ w.heap.size ≤ g5 by omega)
  have HSF := Lib.hid (show (Try.prog.info? 83).map (·.size) = some FC.size by rw [sF]; kernel_rfl)
  have HSG := Lib.hid (show (Try.prog.info? 83).map (·.size) = some GX.size by rw [sG]; kernel_rfl)
  have HFS := Lib.hid sF
  have HGS := Lib.hid sG
  clear hr hc y0 hn hrf hlf hnf hrg hlg hng hk hf hg hkv0 huf hug LF LG sF sG hFC hGX hf1 hg1 hkl hk3 x4 x5 b2 hW2 hg4 hg5
  go_enter Try.func18, Try.ntmps18
  go_upto_region 1 with (fail)
  rw [HW2.out, HG45.out.1, HG45.out.2]
  clear HW2 HG45
  refine wp_region_mono (w0 := _) 6 [some 11, some 12, some 13, some 14, some 15, some 16] (by kernel_rfl) (by kernel_rfl) (by kernel_rfl) (by kernel_rfl) (of_decide_eq_true (by kernel_rfl)) (by kernel_rfl) (pdW1 kv0 k3 FC GX f1 g1) ?_ ?_ ?_
  · exact pdW1_mono kv0 k3 FC GX f1 g1
  · intro i hi o w1 b ho hbel hv hstood hsize K hK
    have hc : i = 0 ∨ i = 1 ∨ i = 2 ∨ i = 3 ∨ i = 4 ∨ i = 5 := by omega
    rcases hc with rfl | rfl | rfl | rfl | rfl | rfl
    · obtain rfl : (⟨some 11, .move (Operand.tmp 0), _, _, _, _⟩ : Oper) = o := Option.some.inj ho
      refine ask_plain rfl ?_
      have e : b.eval (.tmp 0) = kv0 := (hstood 0 (by kernel_rfl)).trans rfl
      exact wp_val _ rfl (hK _ _ e (Below.refl _ _))
    · obtain rfl : (⟨some 12, .call { callee := (Callee.value (Operand.func 59)), args := #[(Operand.tmp 11)], argTypes := #[35] }, _, _, _, _⟩ : Oper) = o := Option.some.inj ho
      refine ask_plain rfl ?_
      have e1 : b.eval (.tmp 11) = kv0 := hv 0 11 (by kernel_rfl) (by kernel_rfl) (of_decide_eq_true (by kernel_rfl))
      refine wp_call_fn 59 #[.tmp 11] #[35] rfl Try.f59 _ Try.func59 (by kernel_rfl) rfl #[kv0] (by simp [e1]) ((cut59_any k kv0 w1 (HKV.out.below hbel)).mono ?_)
      rintro e w2 ⟨u2, rfl, hE2, rfl⟩
      exact ⟨_, rfl, hK _ _ (by rw [← HK3.out]; exact hE2 _ (HKV.out.below hbel)) (Below.refl _ _)⟩
    · obtain rfl : (⟨some 13, .load 83 (Operand.tmp 4), _, _, _, _⟩ : Oper) = o := Option.some.inj ho
      refine ask_plain rfl ?_
      have e1 : b.eval (.tmp 4) = .pointer (some ⟨g4, 0, none⟩) := (hstood 4 (by kernel_rfl)).trans rfl
      exact wp_load_cells 83 (.tmp 4) rfl ⟨g4, 0, none⟩ e1 FC _ rfl (fun j v hj => by rw [add_zero_off, Joins.cell_of_block (keepH hbel HX4.out)]; exact hj) Try.underlying83 HSF.out (hK _ _ rfl (Below.refl _ _))
    · obtain rfl : (⟨some 14, .call { callee := (Callee.value (Operand.func 60)), args := #[(Operand.tmp 13)], argTypes := #[83] }, _, _, _, _⟩ : Oper) = o := Option.some.inj ho
      refine ask_plain rfl ?_
      have e1 : b.eval (.tmp 13) = .agg FC := hv 2 13 (by kernel_rfl) (by kernel_rfl) (of_decide_eq_true (by kernel_rfl))
      refine wp_call_fn 60 #[.tmp 13] #[83] rfl Try.f60 _ Try.func60 (by kernel_rfl) rfl #[.agg FC] (by simp [e1]) ((HLF.out w1 hbel).mono ?_)
      rintro e w2 ⟨u2, rfl, hE2, hb2⟩
      exact ⟨_, rfl, hK _ _ ⟨u2, rfl, hE2⟩ hb2⟩
    · obtain rfl : (⟨some 15, .load 83 (Operand.tmp 5), _, _, _, _⟩ : Oper) = o := Option.some.inj ho
      refine ask_plain rfl ?_
      have e1 : b.eval (.tmp 5) = .pointer (some ⟨g5, 0, none⟩) := (hstood 5 (by kernel_rfl)).trans rfl
      exact wp_load_cells 83 (.tmp 5) rfl ⟨g5, 0, none⟩ e1 GX _ rfl (fun j v hj => by rw [add_zero_off, Joins.cell_of_block (keepH hbel HX5.out)]; exact hj) Try.underlying83 HSG.out (hK _ _ rfl (Below.refl _ _))
    · obtain rfl : (⟨some 16, .call { callee := (Callee.value (Operand.func 60)), args := #[(Operand.tmp 15)], argTypes := #[83] }, _, _, _, _⟩ : Oper) = o := Option.some.inj ho
      refine ask_plain rfl ?_
      have e1 : b.eval (.tmp 15) = .agg GX := hv 4 15 (by kernel_rfl) (by kernel_rfl) (of_decide_eq_true (by kernel_rfl))
      refine wp_call_fn 60 #[.tmp 15] #[83] rfl Try.f60 _ Try.func60 (by kernel_rfl) rfl #[.agg GX] (by simp [e1]) ((HLG.out w1 hbel).mono ?_)
      rintro e w2 ⟨u2, rfl, hE2, hb2⟩
      exact ⟨_, rfl, hK _ _ ⟨u2, rfl, hE2⟩ hb2⟩
  · intro vs w6 hp hb6
    have hk6 : EqN w6 k3 (vs 1) := hp 1 (by decide)
    obtain ⟨uf2, e3, hf6⟩ : ∃ u, vs 3 = frV f1 u ∧ EqN w6 f1.body u := hp 3 (by decide)
    obtain ⟨ug2, e5, hg6⟩ : ∃ u, vs 5 = frV g1 u ∧ EqN w6 g1.body u := hp 5 (by decide)
    change wpList _ _ _ [_, _, _] _ _
    simp only [putD, Act.put, List.setIfInBounds_toArray, List.set_cons_zero, List.set_cons_succ, e3, e5, frV_C]
    obtain ⟨kv, hkv⟩ : ∃ v, vs 1 = v := ⟨_, rfl⟩
    rw [hkv] at hk6 ⊢
    generalize vs 0 = y0, vs 2 = y2, vs 4 = y4
    have x4 := keepH hb6 HX4.out
    have x5 := keepH hb6 HX5.out
    have b6 := HB2.out.trans (hb6.mono HB2.out.size)
    have HF1 := Lib.hid (frC_one f1 hf6)
    have HG1 := Lib.hid (frC_one g1 hg6)
    have hvf := frV_C f1 uf2
    have hvg := frV_C g1 ug2
    have sF := frC_size f1 uf2
    have sG := frC_size g1 ug2
    obtain ⟨F2, hF2⟩ : ∃ F, frC f1 uf2 = F := ⟨_, rfl⟩
    obtain ⟨G2, hG2⟩ : ∃ F, frC g1 ug2 = F := ⟨_, rfl⟩
    rw [hF2] at HF1 hvf sF ⊢
    rw [hG2] at HG1 hvg sG ⊢
    have X4 := Lib.hid x4
    have X5 := Lib.hid ((setRow_other w6 g4 g5 F2 (Ne.symm HNE.out)).trans x5)
    have HSF2 := Lib.hid (show (Try.prog.info? 83).map (·.size) = some F2.size by rw [sF]; kernel_rfl)
    have HSG2 := Lib.hid (show (Try.prog.info? 83).map (·.size) = some G2.size by rw [sG]; kernel_rfl)
    have HFF := Lib.hid (show FC.size = F2.size by rw [sF, HFS.out])
    have HGG := Lib.hid (show GX.size = G2.size by rw [sG, HGS.out])
    have HK6 := hk6.two (F2 := F2) (G2 := G2) x4 x5 n4.out n5.out HNE.out
    have HF6 := hf6.two (F2 := F2) (G2 := G2) x4 x5 n4.out n5.out HNE.out
    have HG6 := hg6.two (F2 := F2) (G2 := G2) x4 x5 n4.out n5.out HNE.out
    have y4h : ((w6.setRow g4 F2).setRow g5 G2).heap[g4]? = some (.cells F2 83 (0, 0)) := (setRow_other _ g5 g4 G2 HNE.out).trans (setRow_heap w6 g4 _ F2 83 _ x4)
    have y5h : ((w6.setRow g4 F2).setRow g5 G2).heap[g5]? = some (.cells G2 83 (0, 0)) := setRow_heap _ g5 _ G2 83 _ X5.out
    have b7 : Below w.heap.size w ((w6.setRow g4 F2).setRow g5 G2) := below_setRow _ _ (below_setRow _ _ b6 HLE.out.1) HLE.out.2
    clear hp hb6 hk6 hf6 hg6 hkv e3 e5 x4 x5 b6 hF2 hG2 sF sG HX4 HX5 HB2 HLF HLG
    go_upto_region 2 with (first | ((with_reducible show wpList _ _ _ (⟨none, .store 83 (.tmp 4) (.tmp 14), _, _, _, _⟩ :: _) _ _); refine wpList_store_row rfl 83 (.tmp 4) (.tmp 14) rfl g4 F2 rfl rfl 83 _ X4.out HSF2.out HFF.out HF1.out ?_) | ((with_reducible show wpList _ _ _ (⟨none, .store 83 (.tmp 5) (.tmp 16), _, _, _, _⟩ :: _) _ _); refine wpList_store_row rfl 83 (.tmp 5) (.tmp 16) rfl g5 G2 rfl rfl 83 _ X5.out HSG2.out HGG.out HG1.out ?_) | fail)
    obtain ⟨W7, hW7⟩ : ∃ W, (w6.setRow g4 F2).setRow g5 G2 = W := ⟨_, rfl⟩
    rw [hW7] at HK6 HF6 HG6 y4h y5h b7 ⊢
    have Y4 := Lib.hid y4h
    have Y5 := Lib.hid y5h
    have B7 := Lib.hid b7
    have K7 := Lib.hid HK6
    have F7 := Lib.hid HF6
    have G7 := Lib.hid HG6
    have HVF := Lib.hid hvf
    have HVG := Lib.hid hvg
    have S1 := fSeal_any k3 kv f1 uf2 W7 HK6 HKL.out HF6
    rw [hvf] at S1
    obtain ⟨SB, hSB⟩ : ∃ s, sealB k3 f1 = s := ⟨_, rfl⟩
    obtain ⟨E0, hE0⟩ : ∃ s, okE f1 = s := ⟨_, rfl⟩
    have HSB := Lib.hid hSB
    have HE0 := Lib.hid hE0
    rw [hSB, hE0] at S1
    have HS1 := Lib.hid S1
    clear HK6 HF6 HG6 y4h y5h b7 hW7 hvf hvg S1 hSB hE0 X4 X5
    go_wp2_with (first | ((with_reducible show wpList _ _ _ (⟨some 19, .load 83 (.tmp 4), _, _, _, _⟩ :: _) _ _); refine wpList_load_cells rfl 83 (.tmp 4) rfl ⟨g4, 0, none⟩ rfl F2 _ rfl (fun j v hj => by rw [add_zero_off, Joins.cell_of_block Y4.out]; exact hj) Try.underlying83 HSF2.out ?_) | fail)
    refine HS1.out.mono ?_
    rintro e w8 ⟨s1, rfl, ho1, hb8⟩
    have Y48 := Lib.hid (keepH hb8 Y4.out)
    have Y58 := Lib.hid (keepH hb8 Y5.out)
    have B8 := Lib.hid (B7.out.trans (hb8.mono B7.out.size))
    have U18 := Lib.hid ho1.eqn
    have F8 := Lib.hid (F7.out.below hb8)
    have G8 := Lib.hid (G7.out.below hb8)
    have S2 := rfSeal_any k3 kv f1 uf2 w8 (K7.out.below hb8) HKL.out F8.out
    rw [HVF.out, HSB.out, HE0.out] at S2
    have HS2 := Lib.hid S2
    clear ho1 hb8 S2 HS1 Y4 Y5 B7 K7 F7 G7
    go_wp2_with (first | ((with_reducible show wpList _ _ _ (⟨some 25, .load 83 (.tmp 4), _, _, _, _⟩ :: _) _ _); refine wpList_load_cells rfl 83 (.tmp 4) rfl ⟨g4, 0, none⟩ rfl F2 _ rfl (fun j v hj => by rw [add_zero_off, Joins.cell_of_block Y48.out]; exact hj) Try.underlying83 HSF2.out ?_) | fail)
    refine HS2.out.mono ?_
    rintro e w9 ⟨s2, rfl, ho2, hb9⟩
    have HG4 := Lib.hid (keepH hb9 Y48.out)
    have HG5 := Lib.hid (keepH hb9 Y58.out)
    have B9 := Lib.hid (B8.out.trans (hb9.mono B8.out.size))
    have HU1 := Lib.hid (U18.out.below hb9)
    have HU2 := Lib.hid ho2.eqn
    have f9 := F8.out.below hb9
    have g9 := G8.out.below hb9
    have HCK := Lib.hid (show ∀ w', Calls Try.prog 63 #[.agg F2] w' fun e w'' => e = .returned (.int .i64 E0) ∧ Below w'.heap.size w' w'' from fun w' => by
      obtain ⟨A, c, e, hc, _, _⟩ := f9
      have h := fcheck_any f1 A c w' hc
      rw [← e, HVF.out] at h
      rw [← HE0.out]
      exact h)
    have HRCK := Lib.hid (show ∀ w', Calls Try.prog 64 #[.agg F2] w' fun e w'' => e = .returned (.int .i64 E0) ∧ Below w'.heap.size w' w'' from fun w' => by
      obtain ⟨A, c, e, hc, _, _⟩ := f9
      have h := rfcheck_any f1 A c w' hc
      rw [← e, HVF.out] at h
      rw [← HE0.out]
      exact h)
    have hsm := fun w' (hb : Below w9.heap.size w9 w') => fsame_any f1 g1 uf2 ug2 w' (f9.below hb) (g9.below hb)
    have hrsm := fun w' (hb : Below w9.heap.size w9 w') => rfsame_any f1 g1 uf2 ug2 w' (f9.below hb) (g9.below hb)
    have hss := fun w' (hb : Below w9.heap.size w9 w') => fsame_any f1 f1 uf2 uf2 w' (f9.below hb) (f9.below hb)
    obtain ⟨sm, hsmv⟩ : ∃ b, sameF f1 g1 = b := ⟨_, rfl⟩
    simp only [HVF.out, HVG.out, hsmv] at hsm hrsm
    simp only [HVF.out, (sameF_iff f1 f1).2 rfl] at hss
    have HSM := Lib.hid hsm
    have HRSM := Lib.hid hrsm
    have HSS := Lib.hid hss
    clear ho2 hb9 f9 g9 hsm hrsm hss hsmv HS2 Y48 Y58 B8 U18 F8 G8
    go_upto_region 4 with (fail)
    refine wp_region_mono (w0 := _) 34 [some 29, some 30, some 31, some 32, some 33, some 34, some 35, some 36, some 37, some 38, some 39, some 40, some 41, some 42, some 43, some 44, some 45, some 46, some 47, some 48, some 49, some 50, some 51, some 52, some 53, some 54, some 55, some 56, some 57, some 58, some 59, some 60, some 61, some 62] (by kernel_rfl) (by kernel_rfl) (by kernel_rfl) (by kernel_rfl) (of_decide_eq_true (by kernel_rfl)) (by kernel_rfl) (pdW4 s1 s2 SB E0 F2 G2 sm) ?_ ?_ ?_
    · exact pdW4_mono s1 s2 SB E0 F2 G2 sm
    · intro i hi o w1 b ho hbel hv hstood hsize K hK
      have hc : i = 0 ∨ i = 1 ∨ i = 2 ∨ i = 3 ∨ i = 4 ∨ i = 5 ∨ i = 6 ∨ i = 7 ∨ i = 8 ∨ i = 9 ∨ i = 10 ∨ i = 11 ∨ i = 12 ∨ i = 13 ∨ i = 14 ∨ i = 15 ∨ i = 16 ∨ i = 17 ∨ i = 18 ∨ i = 19 ∨ i = 20 ∨ i = 21 ∨ i = 22 ∨ i = 23 ∨ i = 24 ∨ i = 25 ∨ i = 26 ∨ i = 27 ∨ i = 28 ∨ i = 29 ∨ i = 30 ∨ i = 31 ∨ i = 32 ∨ i = 33 := by omega
      rcases hc with rfl | rfl | rfl | rfl | rfl | rfl | rfl | rfl | rfl | rfl | rfl | rfl | rfl | rfl | rfl | rfl | rfl | rfl | rfl | rfl | rfl | rfl | rfl | rfl | rfl | rfl | rfl | rfl | rfl | rfl | rfl | rfl | rfl | rfl
      · obtain rfl : (⟨some 29, .move (Operand.tmp 7), _, _, _, _⟩ : Oper) = o := Option.some.inj ho
        refine ask_plain rfl ?_
        have e : b.eval (.tmp 7) = s1 := (hstood 7 (by kernel_rfl)).trans rfl
        exact wp_val _ rfl (hK _ _ e (Below.refl _ _))
      · obtain rfl : (⟨some 30, .convert 35 9 (Operand.tmp 29), _, _, _, _⟩ : Oper) = o := Option.some.inj ho
        refine ask_plain rfl ?_
        have e1 : b.eval (.tmp 29) = s1 := hv 0 29 (by kernel_rfl) (by kernel_rfl) (of_decide_eq_true (by kernel_rfl))
        have e2 := conv_EqN (HU1.out.below hbel)
        exact wp_val (.string (strV SB)) (by simp only [execOp, Sem.run_bind, e1, e2, Result.andThen]; rfl) (hK _ _ rfl (Below.refl _ _))
      · obtain rfl : (⟨some 31, .move (Operand.tmp 9), _, _, _, _⟩ : Oper) = o := Option.some.inj ho
        refine ask_plain rfl ?_
        have e : b.eval (.tmp 9) = s2 := (hstood 9 (by kernel_rfl)).trans rfl
        exact wp_val _ rfl (hK _ _ e (Below.refl _ _))
      · obtain rfl : (⟨some 32, .convert 35 9 (Operand.tmp 31), _, _, _, _⟩ : Oper) = o := Option.some.inj ho
        refine ask_plain rfl ?_
        have e1 : b.eval (.tmp 31) = s2 := hv 2 31 (by kernel_rfl) (by kernel_rfl) (of_decide_eq_true (by kernel_rfl))
        have e2 := conv_EqN (HU2.out.below hbel)
        exact wp_val (.string (strV SB)) (by simp only [execOp, Sem.run_bind, e1, e2, Result.andThen]; rfl) (hK _ _ rfl (Below.refl _ _))
      · obtain rfl : (⟨some 33, .binOp BinOp.eql 9 (Operand.tmp 30) (Operand.tmp 32) 9, _, _, _, _⟩ : Oper) = o := Option.some.inj ho
        refine ask_plain rfl ?_
        have e0 : b.eval (.tmp 30) = .string (strV SB) := hv 1 30 (by kernel_rfl) (by kernel_rfl) (of_decide_eq_true (by kernel_rfl))
        have e1 : b.eval (.tmp 32) = .string (strV SB) := hv 3 32 (by kernel_rfl) (by kernel_rfl) (of_decide_eq_true (by kernel_rfl))
        exact wp_val (.bool true) (by simp only [execOp, e0, e1]; simp [go_sem]) (hK _ _ rfl (Below.refl _ _))
      · obtain rfl : (⟨some 34, .move (Operand.tmp 33), _, _, _, _⟩ : Oper) = o := Option.some.inj ho
        refine ask_plain rfl ?_
        have e : b.eval (.tmp 33) = .bool true := hv 4 33 (by kernel_rfl) (by kernel_rfl) (of_decide_eq_true (by kernel_rfl))
        exact wp_val _ rfl (hK _ _ e (Below.refl _ _))
      · obtain rfl : (⟨some 35, .move (Operand.tmp 8), _, _, _, _⟩ : Oper) = o := Option.some.inj ho
        have hgd := hv 5 34 (by kernel_rfl) (by kernel_rfl) (of_decide_eq_true (by kernel_rfl))
        refine ask_yes 5 34 true rfl (by kernel_rfl) (by rw [hsize]; exact (of_decide_eq_true (by kernel_rfl))) hgd ?_
        have e : b.eval (.tmp 8) = .int .i64 E0 := (hstood 8 (by kernel_rfl)).trans rfl
        exact wp_val _ rfl (hK _ _ e (Below.refl _ _))
      · obtain rfl : (⟨some 36, .move (Operand.tmp 10), _, _, _, _⟩ : Oper) = o := Option.some.inj ho
        have hgd := hv 5 34 (by kernel_rfl) (by kernel_rfl) (of_decide_eq_true (by kernel_rfl))
        refine ask_yes 5 34 true rfl (by kernel_rfl) (by rw [hsize]; exact (of_decide_eq_true (by kernel_rfl))) hgd ?_
        have e : b.eval (.tmp 10) = .int .i64 E0 := (hstood 10 (by kernel_rfl)).trans rfl
        exact wp_val _ rfl (hK _ _ e (Below.refl _ _))
      · obtain rfl : (⟨some 37, .binOp BinOp.eql 44 (Operand.tmp 35) (Operand.tmp 36) 44, _, _, _, _⟩ : Oper) = o := Option.some.inj ho
        have hgd := hv 5 34 (by kernel_rfl) (by kernel_rfl) (of_decide_eq_true (by kernel_rfl))
        refine ask_yes 5 34 true rfl (by kernel_rfl) (by rw [hsize]; exact (of_decide_eq_true (by kernel_rfl))) hgd ?_
        have e0 : b.eval (.tmp 35) = .int .i64 E0 := hv 6 35 (by kernel_rfl) (by kernel_rfl) (of_decide_eq_true (by kernel_rfl))
        have e1 : b.eval (.tmp 36) = .int .i64 E0 := hv 7 36 (by kernel_rfl) (by kernel_rfl) (of_decide_eq_true (by kernel_rfl))
        exact wp_val (.bool true) (by simp only [execOp, e0, e1]; simp [go_sem]) (hK _ _ rfl (Below.refl _ _))
      · obtain rfl : (⟨some 38, .pick (Operand.tmp 34) (Operand.tmp 37) (Operand.const (Value.bool false)), _, _, _, _⟩ : Oper) = o := Option.some.inj ho
        refine ask_plain rfl ?_
        have e0 : b.eval (.tmp 34) = .bool true := hv 5 34 (by kernel_rfl) (by kernel_rfl) (of_decide_eq_true (by kernel_rfl))
        have e1 : b.eval (.tmp 37) = .bool true := hv 8 37 (by kernel_rfl) (by kernel_rfl) (of_decide_eq_true (by kernel_rfl))
        exact wp_val (.bool true) (by simp only [execOp, e0, e1]; rfl) (hK _ _ rfl (Below.refl _ _))
      · obtain rfl : (⟨some 39, .move (Operand.tmp 38), _, _, _, _⟩ : Oper) = o := Option.some.inj ho
        refine ask_plain rfl ?_
        have e : b.eval (.tmp 38) = .bool true := hv 9 38 (by kernel_rfl) (by kernel_rfl) (of_decide_eq_true (by kernel_rfl))
        exact wp_val _ rfl (hK _ _ e (Below.refl _ _))
      · obtain rfl : (⟨some 40, .load 83 (Operand.tmp 4), _, _, _, _⟩ : Oper) = o := Option.some.inj ho
        have hgd := hv 10 39 (by kernel_rfl) (by kernel_rfl) (of_decide_eq_true (by kernel_rfl))
        refine ask_yes 10 39 true rfl (by kernel_rfl) (by rw [hsize]; exact (of_decide_eq_true (by kernel_rfl))) hgd ?_
        have e1 : b.eval (.tmp 4) = .pointer (some ⟨g4, 0, none⟩) := (hstood 4 (by kernel_rfl)).trans rfl
        exact wp_load_cells 83 (.tmp 4) rfl ⟨g4, 0, none⟩ e1 F2 _ rfl (fun j v hj => by rw [add_zero_off, Joins.cell_of_block (keepH hbel HG4.out)]; exact hj) Try.underlying83 HSF2.out (hK _ _ rfl (Below.refl _ _))
      · obtain rfl : (⟨some 41, .call { callee := (Callee.value (Operand.func 63)), args := #[(Operand.tmp 40)], argTypes := #[83] }, _, _, _, _⟩ : Oper) = o := Option.some.inj ho
        have hgd := hv 10 39 (by kernel_rfl) (by kernel_rfl) (of_decide_eq_true (by kernel_rfl))
        refine ask_yes 10 39 true rfl (by kernel_rfl) (by rw [hsize]; exact (of_decide_eq_true (by kernel_rfl))) hgd ?_
        have e1 : b.eval (.tmp 40) = .agg F2 := hv 11 40 (by kernel_rfl) (by kernel_rfl) (of_decide_eq_true (by kernel_rfl))
        refine wp_call_fn 63 #[.tmp 40] #[83] rfl Try.f63 _ Try.func63 (by kernel_rfl) rfl #[.agg F2] (by simp [e1]) ((HCK.out w1).mono ?_)
        rintro e w2 ⟨rfl, hb2⟩
        exact ⟨_, rfl, hK _ _ rfl hb2⟩
      · obtain rfl : (⟨some 42, .load 83 (Operand.tmp 4), _, _, _, _⟩ : Oper) = o := Option.some.inj ho
        have hgd := hv 10 39 (by kernel_rfl) (by kernel_rfl) (of_decide_eq_true (by kernel_rfl))
        refine ask_yes 10 39 true rfl (by kernel_rfl) (by rw [hsize]; exact (of_decide_eq_true (by kernel_rfl))) hgd ?_
        have e1 : b.eval (.tmp 4) = .pointer (some ⟨g4, 0, none⟩) := (hstood 4 (by kernel_rfl)).trans rfl
        exact wp_load_cells 83 (.tmp 4) rfl ⟨g4, 0, none⟩ e1 F2 _ rfl (fun j v hj => by rw [add_zero_off, Joins.cell_of_block (keepH hbel HG4.out)]; exact hj) Try.underlying83 HSF2.out (hK _ _ rfl (Below.refl _ _))
      · obtain rfl : (⟨some 43, .call { callee := (Callee.value (Operand.func 64)), args := #[(Operand.tmp 42)], argTypes := #[83] }, _, _, _, _⟩ : Oper) = o := Option.some.inj ho
        have hgd := hv 10 39 (by kernel_rfl) (by kernel_rfl) (of_decide_eq_true (by kernel_rfl))
        refine ask_yes 10 39 true rfl (by kernel_rfl) (by rw [hsize]; exact (of_decide_eq_true (by kernel_rfl))) hgd ?_
        have e1 : b.eval (.tmp 42) = .agg F2 := hv 13 42 (by kernel_rfl) (by kernel_rfl) (of_decide_eq_true (by kernel_rfl))
        refine wp_call_fn 64 #[.tmp 42] #[83] rfl Try.f64 _ Try.func64 (by kernel_rfl) rfl #[.agg F2] (by simp [e1]) ((HRCK.out w1).mono ?_)
        rintro e w2 ⟨rfl, hb2⟩
        exact ⟨_, rfl, hK _ _ rfl hb2⟩
      · obtain rfl : (⟨some 44, .binOp BinOp.eql 44 (Operand.tmp 41) (Operand.tmp 43) 44, _, _, _, _⟩ : Oper) = o := Option.some.inj ho
        have hgd := hv 10 39 (by kernel_rfl) (by kernel_rfl) (of_decide_eq_true (by kernel_rfl))
        refine ask_yes 10 39 true rfl (by kernel_rfl) (by rw [hsize]; exact (of_decide_eq_true (by kernel_rfl))) hgd ?_
        have e0 : b.eval (.tmp 41) = .int .i64 E0 := hv 12 41 (by kernel_rfl) (by kernel_rfl) (of_decide_eq_true (by kernel_rfl))
        have e1 : b.eval (.tmp 43) = .int .i64 E0 := hv 14 43 (by kernel_rfl) (by kernel_rfl) (of_decide_eq_true (by kernel_rfl))
        exact wp_val (.bool true) (by simp only [execOp, e0, e1]; simp [go_sem]) (hK _ _ rfl (Below.refl _ _))
      · obtain rfl : (⟨some 45, .pick (Operand.tmp 39) (Operand.tmp 44) (Operand.const (Value.bool false)), _, _, _, _⟩ : Oper) = o := Option.some.inj ho
        refine ask_plain rfl ?_
        have e0 : b.eval (.tmp 39) = .bool true := hv 10 39 (by kernel_rfl) (by kernel_rfl) (of_decide_eq_true (by kernel_rfl))
        have e1 : b.eval (.tmp 44) = .bool true := hv 15 44 (by kernel_rfl) (by kernel_rfl) (of_decide_eq_true (by kernel_rfl))
        exact wp_val (.bool true) (by simp only [execOp, e0, e1]; rfl) (hK _ _ rfl (Below.refl _ _))
      · obtain rfl : (⟨some 46, .move (Operand.tmp 45), _, _, _, _⟩ : Oper) = o := Option.some.inj ho
        refine ask_plain rfl ?_
        have e : b.eval (.tmp 45) = .bool true := hv 16 45 (by kernel_rfl) (by kernel_rfl) (of_decide_eq_true (by kernel_rfl))
        exact wp_val _ rfl (hK _ _ e (Below.refl _ _))
      · obtain rfl : (⟨some 47, .load 83 (Operand.tmp 4), _, _, _, _⟩ : Oper) = o := Option.some.inj ho
        have hgd := hv 17 46 (by kernel_rfl) (by kernel_rfl) (of_decide_eq_true (by kernel_rfl))
        refine ask_yes 17 46 true rfl (by kernel_rfl) (by rw [hsize]; exact (of_decide_eq_true (by kernel_rfl))) hgd ?_
        have e1 : b.eval (.tmp 4) = .pointer (some ⟨g4, 0, none⟩) := (hstood 4 (by kernel_rfl)).trans rfl
        exact wp_load_cells 83 (.tmp 4) rfl ⟨g4, 0, none⟩ e1 F2 _ rfl (fun j v hj => by rw [add_zero_off, Joins.cell_of_block (keepH hbel HG4.out)]; exact hj) Try.underlying83 HSF2.out (hK _ _ rfl (Below.refl _ _))
      · obtain rfl : (⟨some 48, .load 83 (Operand.tmp 5), _, _, _, _⟩ : Oper) = o := Option.some.inj ho
        have hgd := hv 17 46 (by kernel_rfl) (by kernel_rfl) (of_decide_eq_true (by kernel_rfl))
        refine ask_yes 17 46 true rfl (by kernel_rfl) (by rw [hsize]; exact (of_decide_eq_true (by kernel_rfl))) hgd ?_
        have e1 : b.eval (.tmp 5) = .pointer (some ⟨g5, 0, none⟩) := (hstood 5 (by kernel_rfl)).trans rfl
        exact wp_load_cells 83 (.tmp 5) rfl ⟨g5, 0, none⟩ e1 G2 _ rfl (fun j v hj => by rw [add_zero_off, Joins.cell_of_block (keepH hbel HG5.out)]; exact hj) Try.underlying83 HSG2.out (hK _ _ rfl (Below.refl _ _))
      · obtain rfl : (⟨some 49, .call { callee := (Callee.value (Operand.func 65)), args := #[(Operand.tmp 47), (Operand.tmp 48)], argTypes := #[83, 83] }, _, _, _, _⟩ : Oper) = o := Option.some.inj ho
        have hgd := hv 17 46 (by kernel_rfl) (by kernel_rfl) (of_decide_eq_true (by kernel_rfl))
        refine ask_yes 17 46 true rfl (by kernel_rfl) (by rw [hsize]; exact (of_decide_eq_true (by kernel_rfl))) hgd ?_
        have e1 : b.eval (.tmp 47) = .agg F2 := hv 18 47 (by kernel_rfl) (by kernel_rfl) (of_decide_eq_true (by kernel_rfl))
        have e2 : b.eval (.tmp 48) = .agg G2 := hv 19 48 (by kernel_rfl) (by kernel_rfl) (of_decide_eq_true (by kernel_rfl))
        refine wp_call_fn 65 #[.tmp 47, .tmp 48] #[83, 83] rfl Try.f65 _ Try.func65 (by kernel_rfl) rfl #[.agg F2, .agg G2] (by simp [e1, e2]) ((HSM.out w1 hbel).mono ?_)
        rintro e w2 ⟨rfl, hb2⟩
        exact ⟨_, rfl, hK _ _ rfl hb2⟩
      · obtain rfl : (⟨some 50, .load 83 (Operand.tmp 4), _, _, _, _⟩ : Oper) = o := Option.some.inj ho
        have hgd := hv 17 46 (by kernel_rfl) (by kernel_rfl) (of_decide_eq_true (by kernel_rfl))
        refine ask_yes 17 46 true rfl (by kernel_rfl) (by rw [hsize]; exact (of_decide_eq_true (by kernel_rfl))) hgd ?_
        have e1 : b.eval (.tmp 4) = .pointer (some ⟨g4, 0, none⟩) := (hstood 4 (by kernel_rfl)).trans rfl
        exact wp_load_cells 83 (.tmp 4) rfl ⟨g4, 0, none⟩ e1 F2 _ rfl (fun j v hj => by rw [add_zero_off, Joins.cell_of_block (keepH hbel HG4.out)]; exact hj) Try.underlying83 HSF2.out (hK _ _ rfl (Below.refl _ _))
      · obtain rfl : (⟨some 51, .load 83 (Operand.tmp 5), _, _, _, _⟩ : Oper) = o := Option.some.inj ho
        have hgd := hv 17 46 (by kernel_rfl) (by kernel_rfl) (of_decide_eq_true (by kernel_rfl))
        refine ask_yes 17 46 true rfl (by kernel_rfl) (by rw [hsize]; exact (of_decide_eq_true (by kernel_rfl))) hgd ?_
        have e1 : b.eval (.tmp 5) = .pointer (some ⟨g5, 0, none⟩) := (hstood 5 (by kernel_rfl)).trans rfl
        exact wp_load_cells 83 (.tmp 5) rfl ⟨g5, 0, none⟩ e1 G2 _ rfl (fun j v hj => by rw [add_zero_off, Joins.cell_of_block (keepH hbel HG5.out)]; exact hj) Try.underlying83 HSG2.out (hK _ _ rfl (Below.refl _ _))
      · obtain rfl : (⟨some 52, .call { callee := (Callee.value (Operand.func 66)), args := #[(Operand.tmp 50), (Operand.tmp 51)], argTypes := #[83, 83] }, _, _, _, _⟩ : Oper) = o := Option.some.inj ho
        have hgd := hv 17 46 (by kernel_rfl) (by kernel_rfl) (of_decide_eq_true (by kernel_rfl))
        refine ask_yes 17 46 true rfl (by kernel_rfl) (by rw [hsize]; exact (of_decide_eq_true (by kernel_rfl))) hgd ?_
        have e1 : b.eval (.tmp 50) = .agg F2 := hv 21 50 (by kernel_rfl) (by kernel_rfl) (of_decide_eq_true (by kernel_rfl))
        have e2 : b.eval (.tmp 51) = .agg G2 := hv 22 51 (by kernel_rfl) (by kernel_rfl) (of_decide_eq_true (by kernel_rfl))
        refine wp_call_fn 66 #[.tmp 50, .tmp 51] #[83, 83] rfl Try.f66 _ Try.func66 (by kernel_rfl) rfl #[.agg F2, .agg G2] (by simp [e1, e2]) ((HRSM.out w1 hbel).mono ?_)
        rintro e w2 ⟨rfl, hb2⟩
        exact ⟨_, rfl, hK _ _ rfl hb2⟩
      · obtain rfl : (⟨some 53, .binOp BinOp.eql 4 (Operand.tmp 49) (Operand.tmp 52) 4, _, _, _, _⟩ : Oper) = o := Option.some.inj ho
        have hgd := hv 17 46 (by kernel_rfl) (by kernel_rfl) (of_decide_eq_true (by kernel_rfl))
        refine ask_yes 17 46 true rfl (by kernel_rfl) (by rw [hsize]; exact (of_decide_eq_true (by kernel_rfl))) hgd ?_
        have e0 : b.eval (.tmp 49) = .bool sm := hv 20 49 (by kernel_rfl) (by kernel_rfl) (of_decide_eq_true (by kernel_rfl))
        have e1 : b.eval (.tmp 52) = .bool sm := hv 23 52 (by kernel_rfl) (by kernel_rfl) (of_decide_eq_true (by kernel_rfl))
        exact wp_val (.bool true) (by simp only [execOp, e0, e1]; simp [go_sem]) (hK _ _ rfl (Below.refl _ _))
      · obtain rfl : (⟨some 54, .pick (Operand.tmp 46) (Operand.tmp 53) (Operand.const (Value.bool false)), _, _, _, _⟩ : Oper) = o := Option.some.inj ho
        refine ask_plain rfl ?_
        have e0 : b.eval (.tmp 46) = .bool true := hv 17 46 (by kernel_rfl) (by kernel_rfl) (of_decide_eq_true (by kernel_rfl))
        have e1 : b.eval (.tmp 53) = .bool true := hv 24 53 (by kernel_rfl) (by kernel_rfl) (of_decide_eq_true (by kernel_rfl))
        exact wp_val (.bool true) (by simp only [execOp, e0, e1]; rfl) (hK _ _ rfl (Below.refl _ _))
      · obtain rfl : (⟨some 55, .move (Operand.tmp 54), _, _, _, _⟩ : Oper) = o := Option.some.inj ho
        refine ask_plain rfl ?_
        have e : b.eval (.tmp 54) = .bool true := hv 25 54 (by kernel_rfl) (by kernel_rfl) (of_decide_eq_true (by kernel_rfl))
        exact wp_val _ rfl (hK _ _ e (Below.refl _ _))
      · obtain rfl : (⟨some 56, .load 83 (Operand.tmp 4), _, _, _, _⟩ : Oper) = o := Option.some.inj ho
        have hgd := hv 26 55 (by kernel_rfl) (by kernel_rfl) (of_decide_eq_true (by kernel_rfl))
        refine ask_yes 26 55 true rfl (by kernel_rfl) (by rw [hsize]; exact (of_decide_eq_true (by kernel_rfl))) hgd ?_
        have e1 : b.eval (.tmp 4) = .pointer (some ⟨g4, 0, none⟩) := (hstood 4 (by kernel_rfl)).trans rfl
        exact wp_load_cells 83 (.tmp 4) rfl ⟨g4, 0, none⟩ e1 F2 _ rfl (fun j v hj => by rw [add_zero_off, Joins.cell_of_block (keepH hbel HG4.out)]; exact hj) Try.underlying83 HSF2.out (hK _ _ rfl (Below.refl _ _))
      · obtain rfl : (⟨some 57, .load 83 (Operand.tmp 4), _, _, _, _⟩ : Oper) = o := Option.some.inj ho
        have hgd := hv 26 55 (by kernel_rfl) (by kernel_rfl) (of_decide_eq_true (by kernel_rfl))
        refine ask_yes 26 55 true rfl (by kernel_rfl) (by rw [hsize]; exact (of_decide_eq_true (by kernel_rfl))) hgd ?_
        have e1 : b.eval (.tmp 4) = .pointer (some ⟨g4, 0, none⟩) := (hstood 4 (by kernel_rfl)).trans rfl
        exact wp_load_cells 83 (.tmp 4) rfl ⟨g4, 0, none⟩ e1 F2 _ rfl (fun j v hj => by rw [add_zero_off, Joins.cell_of_block (keepH hbel HG4.out)]; exact hj) Try.underlying83 HSF2.out (hK _ _ rfl (Below.refl _ _))
      · obtain rfl : (⟨some 58, .call { callee := (Callee.value (Operand.func 65)), args := #[(Operand.tmp 56), (Operand.tmp 57)], argTypes := #[83, 83] }, _, _, _, _⟩ : Oper) = o := Option.some.inj ho
        have hgd := hv 26 55 (by kernel_rfl) (by kernel_rfl) (of_decide_eq_true (by kernel_rfl))
        refine ask_yes 26 55 true rfl (by kernel_rfl) (by rw [hsize]; exact (of_decide_eq_true (by kernel_rfl))) hgd ?_
        have e1 : b.eval (.tmp 56) = .agg F2 := hv 27 56 (by kernel_rfl) (by kernel_rfl) (of_decide_eq_true (by kernel_rfl))
        have e2 : b.eval (.tmp 57) = .agg F2 := hv 28 57 (by kernel_rfl) (by kernel_rfl) (of_decide_eq_true (by kernel_rfl))
        refine wp_call_fn 65 #[.tmp 56, .tmp 57] #[83, 83] rfl Try.f65 _ Try.func65 (by kernel_rfl) rfl #[.agg F2, .agg F2] (by simp [e1, e2]) ((HSS.out w1 hbel).mono ?_)
        rintro e w2 ⟨rfl, hb2⟩
        exact ⟨_, rfl, hK _ _ rfl hb2⟩
      · obtain rfl : (⟨some 59, .pick (Operand.tmp 55) (Operand.tmp 58) (Operand.const (Value.bool false)), _, _, _, _⟩ : Oper) = o := Option.some.inj ho
        refine ask_plain rfl ?_
        have e0 : b.eval (.tmp 55) = .bool true := hv 26 55 (by kernel_rfl) (by kernel_rfl) (of_decide_eq_true (by kernel_rfl))
        have e1 : b.eval (.tmp 58) = .bool true := hv 29 58 (by kernel_rfl) (by kernel_rfl) (of_decide_eq_true (by kernel_rfl))
        exact wp_val (.bool true) (by simp only [execOp, e0, e1]; rfl) (hK _ _ rfl (Below.refl _ _))
      · obtain rfl : (⟨some 60, .move (Operand.tmp 59), _, _, _, _⟩ : Oper) = o := Option.some.inj ho
        refine ask_plain rfl ?_
        have e : b.eval (.tmp 59) = .bool true := hv 30 59 (by kernel_rfl) (by kernel_rfl) (of_decide_eq_true (by kernel_rfl))
        exact wp_val _ rfl (hK _ _ e (Below.refl _ _))
      · obtain rfl : (⟨some 61, .call { callee := (Callee.value (Operand.func 67)), args := #[], argTypes := #[] }, _, _, _, _⟩ : Oper) = o := Option.some.inj ho
        have hgd := hv 31 60 (by kernel_rfl) (by kernel_rfl) (of_decide_eq_true (by kernel_rfl))
        refine ask_yes 31 60 true rfl (by kernel_rfl) (by rw [hsize]; exact (of_decide_eq_true (by kernel_rfl))) hgd ?_
        refine wp_call_fn 67 #[] #[] rfl Try.f67 _ Try.func67 (by kernel_rfl) rfl #[] (by simp) ((fawake_any w1).mono ?_)
        rintro e w2 ⟨rfl, hb2⟩
        exact ⟨_, rfl, hK _ _ rfl hb2⟩
      · obtain rfl : (⟨some 62, .pick (Operand.tmp 60) (Operand.tmp 61) (Operand.const (Value.bool false)), _, _, _, _⟩ : Oper) = o := Option.some.inj ho
        refine ask_plain rfl ?_
        have e0 : b.eval (.tmp 60) = .bool true := hv 31 60 (by kernel_rfl) (by kernel_rfl) (of_decide_eq_true (by kernel_rfl))
        have e1 : b.eval (.tmp 61) = .bool true := hv 32 61 (by kernel_rfl) (by kernel_rfl) (of_decide_eq_true (by kernel_rfl))
        exact wp_val (.bool true) (by simp only [execOp, e0, e1]; rfl) (hK _ _ rfl (Below.refl _ _))
    · intro vs w5 hp hb5
      have HB5 := Lib.hid (B9.out.trans (hb5.mono B9.out.size))
      have v33 : vs 33 = .bool true := hp 33 (by decide)
      change wpList _ _ _ [_] _ _
      simp only [putD, Act.put, List.setIfInBounds_toArray, List.set_cons_zero, List.set_cons_succ, v33]
      generalize vs 0 = z0, vs 1 = z1, vs 2 = z2, vs 3 = z3
      clear hp hb5
      go_wp2
      go_ret
      exact ⟨rfl, HB5.out⟩
end Go.Proofs.Ytjaakhjfpigdfaa
