import Derived.Test.YtjaakhjfpigdfaaA
import Derived.Test.YtjaakhjfpigdfaaW0
import Derived.Deep.WholeRow
import Derived.Deep.LoopGhost
import Derived.OneCell
import Derived.Deep.Cut
import Derived.Deep.RegionHeld3
/-! Rows of numbers; the schedule. -/
namespace Go.Proofs.Ytjaakhjfpigdfaa
open Go.RowKit
set_option linter.unusedVariables false
set_option linter.unusedSimpArgs false
abbrev W32 := BitVec 32
def U (l : List W32) : Array Value := (l.map fun (x : W32) => Value.int .u32 (x.toNat : Int)).toArray
theorem U_size (l : List W32) : (U l).size = l.length := by simp [U]
theorem U_set (l : List W32) (k : Nat) (x : W32) : (U l).setIfInBounds k (.int .u32 (x.toNat : Int)) = U (l.set k x) := by
  unfold U; rw [List.setIfInBounds_toArray, List.map_set]
theorem U_at (l : List W32) (k : Nat) (h : k < l.length) : (U l)[k]? = some (.int .u32 ((l.getD k 0).toNat : Int)) := by
  simp [U, List.getD_eq_getElem?_getD, List.getElem?_eq_getElem h]
theorem U_one (l : List W32) : (U l).all (·.oneCell') = true := by
  rw [Array.all_eq_true]
  intro i hi
  simp [U, Value.oneCell']
/-- The k'th number of a block. -/
def wd (l : List (BitVec 8)) (k : Nat) : W32 := BitVec.ofNat 32 (numOf (l.drop (k * 4)) 4 1)
theorem wd_nat (l : List (BitVec 8)) (k : Nat) : ((wd l k).toNat : Int) = (numOf (l.drop (k * 4)) 4 1 : Nat) := by
  have h := numOf_lt (l.drop (k * 4)) 4 1
  unfold wd
  rw [BitVec.toNat_ofNat, Nat.mod_eq_of_lt (by simpa using h)]
def fillW (l : List (BitVec 8)) : Nat → List W32
  | 0 => List.replicate 64 0
  | k + 1 => (fillW l k).set k (wd l k)
theorem fillW_len (l : List (BitVec 8)) : ∀ k, (fillW l k).length = 64
  | 0 => by simp [fillW]
  | k + 1 => by rw [fillW, List.length_set, fillW_len l k]
def sg0 (x : W32) : W32 := rot x 7 ^^^ rot x 18 ^^^ shf x 3
def sg1 (x : W32) : W32 := rot x 17 ^^^ rot x 19 ^^^ shf x 10
theorem sg0_val (x : W32) : bits .xor .u32 (bits .xor .u32 ((rot x 7).toNat : Int) ((rot x 18).toNat : Int)) ((x.toNat : Int) / 8) = ((sg0 x).toNat : Int) := by
  have h := shr_nat x 3
  rw [show ((x.toNat : Int) / 8) = ((shf x 3).toNat : Int) from h, xor32, xor32]; rfl
theorem sg1_val (x : W32) : bits .xor .u32 (bits .xor .u32 ((rot x 17).toNat : Int) ((rot x 19).toNat : Int)) ((x.toNat : Int) / 1024) = ((sg1 x).toNat : Int) := by
  have h := shr_nat x 10
  rw [show ((x.toNat : Int) / 1024) = ((shf x 10).toNat : Int) from h, xor32, xor32]; rfl
def nextW (L : List W32) (i : Nat) : W32 := L.getD (i - 16) 0 + sg0 (L.getD (i - 15) 0) + L.getD (i - 7) 0 + sg1 (L.getD (i - 2) 0)
def extW (l : List (BitVec 8)) : Nat → List W32
  | 0 => fillW l 16
  | k + 1 => (extW l k).set (16 + k) (nextW (extW l k) (16 + k))
theorem extW_len (l : List (BitVec 8)) : ∀ k, (extW l k).length = 64
  | 0 => fillW_len l 16
  | k + 1 => by rw [extW, List.length_set, extW_len l k]
/-- The numbers of a block, all 64. -/
def schedL (l : List (BitVec 8)) : List W32 := extW l 48
theorem add32 (a b : W32) : ((a.toNat : Int) + (b.toNat : Int)) % 4294967296 = ((a + b).toNat : Int) := by
  rw [BitVec.toNat_add, Int.natCast_emod, Int.natCast_add]; rfl
theorem zeros64 : U (List.replicate 64 0) = (#[.int .u32 0, .int .u32 0, .int .u32 0, .int .u32 0, .int .u32 0, .int .u32 0, .int .u32 0, .int .u32 0, .int .u32 0, .int .u32 0, .int .u32 0, .int .u32 0, .int .u32 0, .int .u32 0, .int .u32 0, .int .u32 0, .int .u32 0, .int .u32 0, .int .u32 0, .int .u32 0, .int .u32 0, .int .u32 0, .int .u32 0, .int .u32 0, .int .u32 0, .int .u32 0, .int .u32 0, .int .u32 0, .int .u32 0, .int .u32 0, .int .u32 0, .int .u32 0, .int .u32 0, .int .u32 0, .int .u32 0, .int .u32 0, .int .u32 0, .int .u32 0, .int .u32 0, .int .u32 0, .int .u32 0, .int .u32 0, .int .u32 0, .int .u32 0, .int .u32 0, .int .u32 0, .int .u32 0, .int .u32 0, .int .u32 0, .int .u32 0, .int .u32 0, .int .u32 0, .int .u32 0, .int .u32 0, .int .u32 0, .int .u32 0, .int .u32 0, .int .u32 0, .int .u32 0, .int .u32 0, .int .u32 0, .int .u32 0, .int .u32 0, .int .u32 0] : Array Value) := by kernel_rfl
theorem heap_setCell {w : World} {b : Nat} {cs : Array Value} {t : TypeId} {fr : Nat × Nat} (h : w.heap[b]? = some (.cells cs t fr)) (i : Nat) (u : Value) : (w.setCell ⟨b, i, none⟩ u).heap[b]? = some (.cells (cs.setIfInBounds i u) t fr) := by
  simp [World.setCell, Array.getElem?_modify, h]
theorem heap_set_other {w : World} {g k i : Nat} {u : Value} {o : Obj} (h : w.heap[k]? = some o) (hk : k ≠ g) : (w.setCell ⟨g, i, none⟩ u).heap[k]? = some o := (Below.heap_setCell _ _ _ _ hk).trans h
theorem keepH {w w' : World} {g : Nat} {o : Obj} (h : Below w.heap.size w w') (hc : w.heap[g]? = some o) : w'.heap[g]? = some o := by rw [h.block g (Array.getElem?_eq_some_iff.1 hc).1]; exact hc
theorem fr_of {w : World} {b : Nat} {cs : Array Value} {t : TypeId} (h : w.heap[b]? = some (.cells cs t (0, 0))) (i : Nat) : w.frozen? ⟨b, i, none⟩ = false := by simp [World.frozen?, h]
theorem load_U {w : World} {g n : Nat} {t : TypeId} {l : List W32} (h : w.heap[g]? = some (.cells (U l) t (0, 0))) (hl : l.length = n) : (loadCellsFrom ⟨g, 0, none⟩ 0 n #[]).run Try.prog w = .ok (U l) w := by
  subst hl
  have := run_loadCells_list (P := Try.prog) w ⟨g, 0, none⟩ (U l).toList (fun j v hv => by
    rw [add_zero_off, Joins.cell_of_block h]
    simpa using hv)
  simpa [loadCells, U] using this
theorem RdR.set64 {w : World} {A : Option Addr} {ws : List Nat} {g k : Nat} {z : Int} {u : Value} (h : RdR (fun x v => v = Value.int .u64 ((x : Nat) : Int)) w A ws) (hc : w.cell? ⟨g, k, none⟩ = some (.int .u32 z)) : RdR (fun x v => v = Value.int .u64 ((x : Nat) : Int)) (w.setCell ⟨g, k, none⟩ u) A ws :=
  ⟨h.1, fun j hj => by
    obtain ⟨ad, v, e, h1, h2⟩ := h.2 j hj
    refine ⟨ad, v, e, (World.cell?_setCell_other _ _ _ _ ?_).trans h1, h2⟩
    intro e2
    rw [← e2, hc, h2] at h1
    simp at h1⟩
theorem wpList_load_row {P : Program} {w : World} {ops : Array Oper} {rest : List Oper} {o : Oper} {a : Act} {Q : Exit → Act → World → Prop} (hgd : o.guard = none) (ty : TypeId) (x : Operand) (ho : o.op = .load ty x) (g : Nat) (hx : a.eval x = .pointer (some ⟨g, 0, none⟩)) (t : TypeId) (cs : Array Value) (d : TypeDesc) (hg : w.heap[g]? = some (.cells cs t (0, 0)))
    (hu : P.underlying ty = some d) (hd : (match d with | .struct _ | .array _ _ => true | _ => false) = true) (hi : (P.info? ty).map (·.size) = some cs.size) (h : wpList P ops Q rest (a.put o.dst (.agg cs)) w) : wpList P ops Q (o :: rest) a w :=
  wpList_plain hgd fun _ hK => by
    unfold Oper.wp execOp
    simp only [ho, hx, Instr.loadAt, Instr.sureAddr, Sem.run_bind, Sem.run_pure, Result.andThen_ok, run_loadVar_row w g t ty cs (0, 0) d hg hu hd hi]
    exact hK _ _ h
theorem below_setRow {w : World} (g : Nat) (cs : Array Value) {B : Nat} {a : World} (h : Below B a w) (hB : B ≤ g) : Below B a (w.setRow g cs) :=
  ⟨h.os, h.tape, h.output, by have := h.size; simpa [World.setRow] using this, fun k hk => by rw [setRow_other _ _ _ _ (by omega)]; exact h.block k hk⟩
set_option maxRecDepth 100000 in
set_option maxHeartbeats 4000000 in
theorem schedule_any (l : List (BitVec 8)) (hl : l.length = 64) (w : World) : Calls Try.prog 74 #[.agg (bytesV l).toArray] w fun e w' => e = .returned (.agg (U (schedL l))) ∧ Below w.heap.size w w' := by
  have b0 : Below w.heap.size w ((w.alloc (.cells (bytesV l).toArray 32)).alloc (.cells (U (List.replicate 64 0)) 99)) := ((Below.refl _ _).alloc (Nat.le_refl _) _).alloc (by simp) _
  have b1 : Below w.heap.size w (((w.alloc (.cells (bytesV l).toArray 32)).alloc (.cells (U (List.replicate 64 0)) 99)).alloc (.cells (U (List.replicate 64 0)) 99)) := b0.alloc (by simp; omega) _
  have h1 := heap_old (.cells (U (List.replicate 64 0)) 99) trivial (heap_new (w.alloc (.cells (bytesV l).toArray 32)) (.cells (U (List.replicate 64 0)) 99) (w.heap.size + 1) (by simp))
  have h2 := heap_new ((w.alloc (.cells (bytesV l).toArray 32)).alloc (.cells (U (List.replicate 64 0)) 99)) (.cells (U (List.replicate 64 0)) 99) (w.heap.size + 2) (by simp)
  have hr : RdB (((w.alloc (.cells (bytesV l).toArray 32)).alloc (.cells (U (List.replicate 64 0)) 99)).alloc (.cells (U (List.replicate 64 0)) 99)) (some ⟨w.heap.size, 0, none⟩) l := RdB.alloc' (RdB.alloc' (RdB.new' w l (bytesV l).toArray 32 (0, 0) (by omega) rfl) _) _
  have WD := words_ok l (some ⟨w.heap.size, 0, none⟩) 64 4 32 1 _ hr (by omega) (by omega) (by omega) (Or.inl rfl) (by omega)
  rw [hl] at WD
  have HZ := Lib.hid zeros64
  obtain ⟨W, hW⟩ : ∃ W, ((w.alloc (.cells (bytesV l).toArray 32)).alloc (.cells (U (List.replicate 64 0)) 99)).alloc (.cells (U (List.replicate 64 0)) 99) = W := ⟨_, rfl⟩
  rw [hW] at b1 h1 h2 WD
  have HW := Lib.hid hW
  replace WD := Lib.hid WD
  have H1 := Lib.hid h1
  have H2 := Lib.hid h2
  clear hr b0 h1 h2 hW
  go_enter Try.func74, Try.ntmps74
  go_wp2_with (first | (go_at_call 98; rw [← HZ.out, HW.out]; refine WD.out.mono ?_; rintro e w2 ⟨v, rfl, hv, bb⟩; obtain ⟨A4, c4, rfl, hc4, hru⟩ := hv; have G1 := Lib.hid (keepH bb H1.out); have G2 := Lib.hid (keepH bb H2.out); have b02 : Below w.heap.size w w2 := b1.trans (bb.mono b1.size); have HRU := Lib.hid hru; clear hru) | fail)
  clear WD H1 H2
  have hlen : (rowOf l 4 1 (64 / 4)).length = 16 := by rw [rowOf_len]
  obtain ⟨ws, hws⟩ : ∃ ws, rowOf l 4 1 (64 / 4) = ws := ⟨_, rfl⟩
  have hget : ∀ k (h : k < ws.length), ws[k] = numOf (l.drop (k * 4)) 4 1 := by
    intro k h
    subst hws
    simp [rowOf]
  rw [hws] at HRU hc4 hlen
  first | rw [hws] | skip
  have HGET := Lib.hid hget
  clear hws hget
  rw [hlen] at hc4
  first | rw [hlen] | skip
  go_loopw [20] (fun iv wr => ∃ k : Nat, k ≤ 16 ∧ iv = .int .i64 k ∧ wr.heap[w.heap.size + 1]? = some (.cells (U (List.replicate 64 0)) 99) ∧ wr.heap[w.heap.size + 2]? = some (.cells (U (fillW l k)) 99) ∧ Below w.heap.size w wr ∧ RdR (fun x v => v = Value.int .u64 ((x : Nat) : Int)) wr A4 ws) (fun iv _ => 16 - (intOf iv).toNat)
  case atStart => exact ⟨0, by omega, rfl, G1.out, G2.out, b02, HRU.out⟩
  case round =>
    obtain ⟨k, hk, rfl, g1, g2, hbel, hru⟩ := hrel
    have hsr := hbel.size
    have lt2 : w.heap.size + 2 < wr.heap.size := (Array.getElem?_eq_some_iff.1 g2).1
    by_cases hlt : k < 16
    · obtain ⟨ad, vv, rfl, hc, hv⟩ := hru.2 k (by omega)
      rw [HGET.out k (by omega)] at hv
      subst hv
      have hwd := wd_nat l k
      have hmod : ((numOf (l.drop (k * 4)) 4 1 : Nat) : Int) % 4294967296 = ((wd l k).toNat : Int) := by rw [← hwd]; have := (wd l k).isLt; omega
      obtain ⟨q, hq⟩ : ∃ q, numOf (l.drop (k * 4)) 4 1 = q := ⟨_, rfl⟩
      rw [hq] at hc hmod
      have hat := U_at (fillW l k) k (by rw [fillW_len]; omega)
      have q0 : wr.cell? ⟨w.heap.size + 2, k, none⟩ = some (.int .u32 (((fillW l k).getD k 0).toNat : Int)) := by rw [Joins.cell_of_block g2]; exact hat
      have f0 := fr_of g2 k
      have HS := Lib.hid (heap_setCell g2 k (.int .u32 ((wd l k).toNat : Int)))
      have HO := Lib.hid (heap_set_other (g := w.heap.size + 2) (i := k) (u := .int .u32 ((wd l k).toNat : Int)) g1 (by omega))
      have HM := Lib.hid hmod
      clear hat hwd hq g1 g2
      have HR := Lib.hid (hru.set64 (u := .int .u32 ((wd l k).toNat : Int)) q0)
      clear hru
      go_wp2
      go_roundw
      case rel => exact ⟨k + 1, by omega, by go_num, HO.out, by have := HS.out; rw [U_set] at this; exact this, hbel.setCell (by simp; omega) _, HR.out⟩
      case measure => simp [intOf]; omega
    · have e16 : k = 16 := by omega
      rw [e16] at g2
      have E16 := Lib.hid e16
      clear e16
      have X1 := Lib.hid g1
      have X2 := Lib.hid g2
      clear hru g1 g2 HRU HGET G1 G2 HW
      go_wp2
      go_loopg [8] 48 (fun gk iv wr => ∃ i : Nat, gk = 64 - i ∧ 16 ≤ i ∧ i ≤ 64 ∧ iv = .int .i64 (i : Int) ∧ wr.heap[w.heap.size + 1]? = some (.cells (U (List.replicate 64 0)) 99) ∧ wr.heap[w.heap.size + 2]? = some (.cells (U (extW l (i - 16))) 99) ∧ Below w.heap.size w wr)
      case atStart => exact ⟨16, rfl, by omega, by omega, rfl, X1.out, X2.out, hbel⟩
      case round =>
        obtain ⟨i, rfl, hi1, hi2, rfl, g1, g2, hbel⟩ := hrel
        have hsr := hbel.size
        have lt2 : w.heap.size + 2 < wr.heap.size := (Array.getElem?_eq_some_iff.1 g2).1
        have hLl := extW_len l (i - 16)
        have hstep : extW l (i + 1 - 16) = (extW l (i - 16)).set i (nextW (extW l (i - 16)) i) := by
          rw [show i + 1 - 16 = (i - 16) + 1 by omega, extW, show 16 + (i - 16) = i by omega]
        obtain ⟨L, hL⟩ : ∃ L, extW l (i - 16) = L := ⟨_, rfl⟩
        rw [hL] at g2 hLl hstep
        have cellU : ∀ j, j < 64 → wr.cell? ⟨w.heap.size + 2, j, none⟩ = some (.int .u32 ((L.getD j 0).toNat : Int)) := fun j hj => by rw [Joins.cell_of_block g2]; exact U_at L j (by omega)
        by_cases hlt : i < 64
        · have q15 := cellU (i - 15) (by omega)
          have q2 := cellU (i - 2) (by omega)
          have q16 := cellU (i - 16) (by omega)
          have q7 := cellU (i - 7) (by omega)
          have qi := cellU i hlt
          unfold nextW at hstep
          obtain ⟨a15, e15⟩ : ∃ a, L.getD (i - 15) 0 = a := ⟨_, rfl⟩
          obtain ⟨a2, e2⟩ : ∃ a, L.getD (i - 2) 0 = a := ⟨_, rfl⟩
          obtain ⟨a16, e16⟩ : ∃ a, L.getD (i - 16) 0 = a := ⟨_, rfl⟩
          obtain ⟨a7, e7⟩ : ∃ a, L.getD (i - 7) 0 = a := ⟨_, rfl⟩
          rw [e15] at q15 hstep
          rw [e2] at q2 hstep
          rw [e16] at q16 hstep
          rw [e7] at q7 hstep
          have s15 : IntKind.i64.wrap ((i : Int) - 15) = ((i - 15 : Nat) : Int) := by rw [show (i : Int) - 15 = ((i - 15 : Nat) : Int) by omega]; exact IntWalk.i64_in _ (by omega)
          have s2 : IntKind.i64.wrap ((i : Int) - 2) = ((i - 2 : Nat) : Int) := by rw [show (i : Int) - 2 = ((i - 2 : Nat) : Int) by omega]; exact IntWalk.i64_in _ (by omega)
          have s16 : IntKind.i64.wrap ((i : Int) - 16) = ((i - 16 : Nat) : Int) := by rw [show (i : Int) - 16 = ((i - 16 : Nat) : Int) by omega]; exact IntWalk.i64_in _ (by omega)
          have s7 : IntKind.i64.wrap ((i : Int) - 7) = ((i - 7 : Nat) : Int) := by rw [show (i : Int) - 7 = ((i - 7 : Nat) : Int) by omega]; exact IntWalk.i64_in _ (by omega)
          have HS := Lib.hid hstep
          have G1 := Lib.hid g1
          have G2 := Lib.hid g2
          have R1 : Hid (∀ w : World, Calls Try.prog 76 #[.int .u32 a15.toNat, .int .u64 7] w fun e w' => e = .returned (.int .u32 (rot a15 7).toNat) ∧ w = w') := right_any a15 7 (by omega) (by omega)
          have R2 : Hid (∀ w : World, Calls Try.prog 76 #[.int .u32 a15.toNat, .int .u64 18] w fun e w' => e = .returned (.int .u32 (rot a15 18).toNat) ∧ w = w') := right_any a15 18 (by omega) (by omega)
          have R3 : Hid (∀ w : World, Calls Try.prog 76 #[.int .u32 a2.toNat, .int .u64 17] w fun e w' => e = .returned (.int .u32 (rot a2 17).toNat) ∧ w = w') := right_any a2 17 (by omega) (by omega)
          have R4 : Hid (∀ w : World, Calls Try.prog 76 #[.int .u32 a2.toNat, .int .u64 19] w fun e w' => e = .returned (.int .u32 (rot a2 19).toNat) ∧ w = w') := right_any a2 19 (by omega) (by omega)
          have b15 := a15.isLt
          have b2' := a2.isLt
          clear e15 e2 e16 e7 hL hstep cellU g1 g2 hLl
          go_wp2
          go_quiet (fail)
          go_wp2_with (first | (go_at_call 76; (with_reducible refine (R1.out _).mono ?_); rintro e w' ⟨rfl, rfl⟩) | (go_at_call 76; (with_reducible refine (R2.out _).mono ?_); rintro e w' ⟨rfl, rfl⟩) | (go_at_call 76; (with_reducible refine (R3.out _).mono ?_); rintro e w' ⟨rfl, rfl⟩) | (go_at_call 76; (with_reducible refine (R4.out _).mono ?_); rintro e w' ⟨rfl, rfl⟩) | fail)
          rw [sg0_val, sg1_val]
          obtain ⟨S0, hS0⟩ : ∃ S, sg0 a15 = S := ⟨_, rfl⟩
          obtain ⟨S1, hS1⟩ : ∃ S, sg1 a2 = S := ⟨_, rfl⟩
          rw [hS0, hS1]
          rw [hS0, hS1] at HS
          have t1 := wrap_add32 a16 S0
          have t2 := wrap_add32 (a16 + S0) a7
          have t3 := wrap_add32 (a16 + S0 + a7) S1
          obtain ⟨u1, hu1⟩ : ∃ u, a16 + S0 = u := ⟨_, rfl⟩
          rw [hu1] at t1 t2 t3 HS
          obtain ⟨u2, hu2⟩ : ∃ u, u1 + a7 = u := ⟨_, rfl⟩
          rw [hu2] at t2 t3 HS
          obtain ⟨u3, hu3⟩ : ∃ u, u2 + S1 = u := ⟨_, rfl⟩
          rw [hu3] at t3 HS
          have f0 := fr_of G2.out i
          have HS2 := Lib.hid (heap_setCell G2.out i (.int .u32 (u3.toNat : Int)))
          have HO := Lib.hid (heap_set_other (g := w.heap.size + 2) (i := i) (u := .int .u32 (u3.toNat : Int)) G1.out (by omega))
          clear hS0 hS1 hu1 hu2 hu3 R1 R2 R3 R4
          have bV : Below w.heap.size w (wr.drewN nq) := ⟨hbel.os, hbel.tape, hbel.output, hbel.size, hbel.block⟩
          have v16 : (wr.drewN nq).cell? ⟨w.heap.size + 2, i - 16, none⟩ = some (.int .u32 (a16.toNat : Int)) := q16
          have v7 : (wr.drewN nq).cell? ⟨w.heap.size + 2, i - 7, none⟩ = some (.int .u32 (a7.toNat : Int)) := q7
          have vi : (wr.drewN nq).cell? ⟨w.heap.size + 2, i, none⟩ = some (.int .u32 ((L.getD i 0).toNat : Int)) := qi
          have vf : (wr.drewN nq).frozen? ⟨w.heap.size + 2, i, none⟩ = false := f0
          have HG1 : Hid ((wr.drewN nq).heap[w.heap.size + 1]? = some (.cells (U (List.replicate 64 0)) 99)) := G1
          have HG2 : Hid ((wr.drewN nq).heap[w.heap.size + 2]? = some (.cells (U L) 99)) := G2
          obtain ⟨V, hV⟩ : ∃ V, wr.drewN nq = V := ⟨_, rfl⟩
          rw [hV] at bV v16 v7 vi vf HG1 HG2
          rw [hV]
          clear hV q15 q2 q16 q7 qi f0 G1 G2 HS2 HO lt2 hsr hbel
          have K16 : (V.setCell ⟨w.heap.size + 2, i, none⟩ (.int .u32 (u3.toNat : Int))).cell? ⟨w.heap.size + 2, i - 16, none⟩ = some (.int .u32 (a16.toNat : Int)) := (World.cell?_setCell_other _ _ _ _ (by intro e; have e2 := congrArg Addr.off e; simp only at e2; omega)).trans v16
          have K7 : (V.setCell ⟨w.heap.size + 2, i, none⟩ (.int .u32 (u3.toNat : Int))).cell? ⟨w.heap.size + 2, i - 7, none⟩ = some (.int .u32 (a7.toNat : Int)) := (World.cell?_setCell_other _ _ _ _ (by intro e; have e2 := congrArg Addr.off e; simp only at e2; omega)).trans v7
          have h16 : ((i - 16 : Nat) : Int) < 64 := by omega
          have h7 : ((i - 7 : Nat) : Int) < 64 := by omega
          have hiI : (i : Int) < 64 := by omega
          go_region_held3 (fun w' => w'.cell? ⟨w.heap.size + 2, i - 16, none⟩ = some (.int .u32 (a16.toNat : Int)) ∧ w'.cell? ⟨w.heap.size + 2, i - 7, none⟩ = some (.int .u32 (a7.toNat : Int))) (first | exact ⟨v16, v7⟩ | exact ⟨K16, K7⟩) (first | fail)
          clear t1 t2 t3 s15 s2 s16 s7 h16 h7 hiI K16 K7
          go_wp2
          go_roundg (64 - (i + 1))
          case measure => omega
          case rel =>
            have h := heap_setCell HG2.out i (.int .u32 (u3.toNat : Int))
            rw [U_set] at h
            exact ⟨i + 1, rfl, by omega, by omega, by go_num, heap_set_other HG1.out (by omega), by rw [HS.out]; exact h, (bV.setCell (by simp; omega) _).drew⟩
        · obtain rfl : i = 64 := by omega
          rw [show extW l (64 - 16) = schedL l from rfl] at hL
          have HLS := Lib.hid hL
          have hsz : (Try.prog.info? 99).map (·.size) = some (U L).size := by rw [U_size, hLl]; kernel_rfl
          have HG1 := Lib.hid g1
          have HG2 := Lib.hid g2
          have HZL := Lib.hid (show (U (List.replicate 64 0)).size = (U L).size by rw [U_size, U_size, hLl]; simp)
          have HSZ := Lib.hid hsz
          clear cellU hstep g1 g2 hsz X1 X2 hL
          go_upto_region 15 with (fail)
          refine wp_region_list ?_
          refine wpList_load_row rfl 99 (.tmp 3) rfl (w.heap.size + 1 + 1) rfl 99 (U L) _ HG2.out Try.underlying99 rfl HSZ.out ?_
          refine wpList_store_row rfl 99 (.tmp 2) (.tmp 73) rfl (w.heap.size + 1) (U L) rfl rfl 99 _ HG1.out HSZ.out HZL.out (U_one L) ?_
          refine wpList_nil ?_
          obtain ⟨Wz, hWz⟩ : ∃ Wz, wr.setRow (w.heap.size + 1) (U L) = Wz := ⟨_, rfl⟩
          have gz : Wz.heap[w.heap.size + 1]? = some (.cells (U L) 99 (0, 0)) := by rw [← hWz]; exact setRow_heap _ _ _ _ _ _ HG1.out
          have bz : Below w.heap.size w Wz := by rw [← hWz]; exact below_setRow _ _ hbel (by omega)
          rw [hWz]
          have hrv := run_loadVar_row (P := Try.prog) Wz (w.heap.size + 1) 99 99 (U L) (0, 0) _ gz Try.underlying99 rfl HSZ.out
          have HRV := Lib.hid hrv
          clear hWz hrv gz
          try simp only [Act.put, List.setIfInBounds_toArray, List.set_cons_zero, List.set_cons_succ]
          go_wp2
          have hrv := HRV.out
          exact bodyPost_ret (v := .agg (U L)) (by simp [results, Try.results74, asAddr, hrv]) rfl ⟨by rw [HLS.out], bz⟩
end Go.Proofs.Ytjaakhjfpigdfaa
