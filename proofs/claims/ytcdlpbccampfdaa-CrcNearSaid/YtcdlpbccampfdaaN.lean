import Derived.Test.YtcdlpbccampfdaaJ
import Derived.Test.YtcdlpbccampfdaaE
import Derived.Test.YtcdlpbccampfdaaH
import Derived.StillTailTactics
import Derived.Laws.OwnMore
/-! The walk of the law CrcNear. -/
namespace Go.Proofs.Ytcdlpbccampfdaa
open Go.RowKit
open M
set_option linter.unusedVariables false
set_option linter.unusedSimpArgs false

/-- A row of which i bytes from place k on have been turned. -/
def xr (b : List (BitVec 8)) (k : Nat) (x : Nat → BitVec 8) (i : Nat) : List (BitVec 8) := b.mapIdx fun j a => if k ≤ j ∧ j < k + i then a ^^^ x (j - k) else a
theorem length_xr (b : List (BitVec 8)) (k : Nat) (x : Nat → BitVec 8) (i : Nat) : (xr b k x i).length = b.length := by simp [xr]
theorem xr_zero (b : List (BitVec 8)) (k : Nat) (x : Nat → BitVec 8) : xr b k x 0 = b := by
  unfold xr
  apply List.ext_getElem (by simp)
  intro j h1 h2
  simp only [List.getElem_mapIdx]
  rw [if_neg (by omega)]
theorem xr_at (b : List (BitVec 8)) (k : Nat) (x : Nat → BitVec 8) (i : Nat) (h : k + i < b.length) : (xr b k x i)[k + i]'(by rw [length_xr]; exact h) = b[k + i] := by
  simp [xr]
theorem xr_succ (b : List (BitVec 8)) (k : Nat) (x : Nat → BitVec 8) (i : Nat) (h : k + i < b.length) : xr b k x (i + 1) = (xr b k x i).set (k + i) (b[k + i] ^^^ x i) := by
  apply List.ext_getElem (by simp [xr])
  intro j h1 h2
  rw [List.getElem_set]
  simp only [xr, List.getElem_mapIdx]
  by_cases e : k + i = j
  · subst e; simp
  · rw [if_neg e]
    by_cases g : k ≤ j ∧ j < k + i
    · rw [if_pos g, if_pos (by omega)]
    · rw [if_neg g, if_neg (by omega)]
theorem cut4 (b : List (BitVec 8)) (k : Nat) (h : k + 4 ≤ b.length) : b = b.take k ++ [b[k], b[k + 1], b[k + 2], b[k + 3]] ++ b.drop (k + 4) := by
  have e : b.drop k = b[k] :: b[k + 1] :: b[k + 2] :: b[k + 3] :: b.drop (k + 4) := by
    rw [List.drop_eq_getElem_cons (by omega), List.drop_eq_getElem_cons (i := k + 1) (by omega), List.drop_eq_getElem_cons (i := k + 2) (by omega), List.drop_eq_getElem_cons (i := k + 3) (by omega)]
  rw [List.append_assoc]
  have e2 : [b[k], b[k + 1], b[k + 2], b[k + 3]] ++ b.drop (k + 4) = b.drop k := by rw [e]; rfl
  rw [e2, List.take_append_drop]
theorem xr_four (b : List (BitVec 8)) (k : Nat) (x : Nat → BitVec 8) (h : k + 4 ≤ b.length) : xr b k x 4 = b.take k ++ [b[k] ^^^ x 0, b[k + 1] ^^^ x 1, b[k + 2] ^^^ x 2, b[k + 3] ^^^ x 3] ++ b.drop (k + 4) := by
  have hl : k + 4 ≤ (xr b k x 4).length := by rw [length_xr]; exact h
  rw [cut4 (xr b k x 4) k hl]
  have e1 : (xr b k x 4).take k = b.take k := by
    apply List.ext_getElem (by simp [xr])
    intro j h1 h2
    have hj : j < k := by simp [xr] at h1; omega
    simp only [List.getElem_take, xr, List.getElem_mapIdx]
    rw [if_neg (by omega)]
  have e2 : (xr b k x 4).drop (k + 4) = b.drop (k + 4) := by
    apply List.ext_getElem (by simp [xr])
    intro j h1 h2
    simp only [List.getElem_drop, xr, List.getElem_mapIdx]
    rw [if_neg (by omega)]
  rw [e1, e2]
  congr 2
  have g : ∀ j (hj : j < 4), (xr b k x 4)[k + j]'(by omega) = b[k + j]'(by omega) ^^^ x j := by
    intro j hj
    simp only [xr, List.getElem_mapIdx]
    rw [if_pos (by omega), show k + j - k = j by omega]
  rw [show (xr b k x 4)[k]'(by omega) = b[k] ^^^ x 0 from g 0 (by omega), g 1 (by omega), g 2 (by omega), g 3 (by omega)]
theorem plain5 : Try.prog.plainKey 5 = true := by kernel_rfl
theorem cells5 : Try.prog.cellsOf 5 = 1 := by kernel_rfl
theorem info5 : (Try.prog.info? 5).map (fun i => (i.zero, i.size, i.bytes)) = some (some (.int .u8 0), 1, 1) := by kernel_rfl
theorem near_ne (b : List (BitVec 8)) (k : Nat) (x : Nat → BitVec 8) (h : k + 4 ≤ b.length) (hx : ¬ (x 0 = 0#8 ∧ x 1 = 0#8 ∧ x 2 = 0#8 ∧ x 3 = 0#8)) :
    (((sums 0#32 [b]).toNat : Int) != ((sums 0#32 [xr b k x 4]).toNat : Int)) = true := by
  rw [bne_iff_ne]
  intro he
  have he' : sums 0#32 [b] = sums 0#32 [xr b k x 4] := BitVec.eq_of_toNat_eq (by omega)
  rw [sums_one, sums_one, xr_four b k x h] at he'
  exact hx (near 0#32 (b.take k) (b.drop (k + 4)) _ _ _ _ _ _ _ _ ((congrArg (add 0#32) (cut4 b k h)).symm.trans he'))

def x4 (a b c d : BitVec 8) (i : Nat) : BitVec 8 := match i with | 0 => a | 1 => b | 2 => c | _ => d
def bytesV (l : List (BitVec 8)) : List Value := l.map fun x => Value.int .u8 (x.toNat : Int)

theorem own_empty (w : World) (e : TypeId) (size : Nat) : (w.alloc (.cells #[] e)).ownsRow w.heap.size e size (.slice (some ⟨w.heap.size, 0, none⟩) 0 0) 0 [] :=
  ⟨by simp, .inr ⟨w.heap.size, 0, #[], rfl, Nat.le_refl _, by show (w.heap.push _)[_]? = _; simp, Nat.le_refl _, by simp [maxLen], by simp, by simp⟩⟩
theorem bytesV_one (l : List (BitVec 8)) : ∀ u ∈ bytesV l, u.oneCell' = true := by
  intro u hu
  obtain ⟨x, _, rfl⟩ := List.mem_map.1 hu
  rfl
theorem bytesV_cells {w : World} {ad : Addr} {l : List (BitVec 8)} (h : RdB w (some ad) l) : ∀ j u, (bytesV l)[j]? = some u → w.cell? (ad.add j) = some u := by
  intro j u hu
  obtain ⟨hj, hu⟩ := List.getElem?_eq_some_iff.1 hu
  have hj' : j < l.length := by simpa [bytesV] using hj
  obtain ⟨ad', e, hc⟩ := RdB.at' h j hj'
  obtain rfl := Option.some.inj e
  rw [hc, ← hu]
  simp [bytesV]
theorem RdB.own {w : World} {base g n cap : Nat} {e : TypeId} {l : List (BitVec 8)} (h : w.ownsRow base e 1 (.slice (some ⟨g, 0, none⟩) n cap) n (bytesV l)) : RdB w (some ⟨g, 0, none⟩) l := by
  have hl : l.length = n := by have := h.1; simpa [bytesV] using this
  have hm : n ≤ maxLen := by
    rcases h.2 with ⟨_, h1⟩ | ⟨g', cap', cur, he, _, _, h1, h2, _⟩
    · omega
    · simp only [Value.slice.injEq] at he; omega
  refine ⟨by rw [hl]; exact hm, fun j hj => ⟨_, _, rfl, h.cells (g := g) rfl j _ ?_, rfl⟩⟩
  simp [bytesV, List.getElem?_eq_getElem hj]
theorem own_cap {w : World} {base g n cap size : Nat} {e : TypeId} {xs : List Value} (h : w.ownsRow base e size (.slice (some ⟨g, 0, none⟩) n cap) n xs) : n ≤ cap := by
  rcases h.2 with ⟨h0, _⟩ | ⟨g', cap', cur, he, _, _, h1, _⟩
  · simp at h0
  · simp only [Value.slice.injEq] at he; omega
theorem near_walk (b : List (BitVec 8)) (B : Option Addr) (cb : Nat) (at' : BitVec 16) (x0 x1 x2 x3 : BitVec 8) (w : World)
    (hb : RdB w B b) (hlb : b.length ≤ cb) (_yb : b.length * 1 ≤ 140737488351232) :
    Calls Try.prog 5 #[.slice B b.length cb, .int .u16 at'.toNat, .agg #[.int .u8 x0.toNat, .int .u8 x1.toNat, .int .u8 x2.toNat, .int .u8 x3.toNat]] w fun e w' => e = .returned (.bool true) ∧ Below w.heap.size w w' := by
  clear _yb
  go_enter Try.func5, Try.ntmps5
  go_wp2_with fail
  refine (awake_any _).mono ?_
  rintro e w1 ⟨rfl, hw⟩
  have hbox : ∀ j, j < 4 → w1.cell? ⟨w.heap.size, j, none⟩ = some (.int .u8 (x4 x0 x1 x2 x3 j).toNat) := by
    intro j hj
    rw [hw.cell (p := ⟨w.heap.size, j, none⟩) (by simp)]
    refine cell_new w _ _ _ j _ ?_
    match j, hj with
    | 0, _ => rfl
    | 1, _ => rfl
    | 2, _ => rfl
    | 3, _ => rfl
  have hb1 : RdB w1 B b := RdR.below (RdB.alloc' hb _) hw (fun _ _ h => h)
  go_wp2_with fail
  refine (cut_any b B cb w1 hlb hb.1).mono ?_
  rintro e w2 ⟨rfl, rfl⟩
  have hb' := hb1.take 8192
  have hlb' := take_le b cb hlb 8192
  have hle : (b.take 8192).length ≤ 8192 := List.length_take_le 8192 b
  generalize b.take 8192 = b' at *
  clear hb hlb hb1
  by_cases h4 : b'.length < 4
  · go_wp2
    go_ret
    exact ⟨rfl, ((Below.refl _ _).alloc (Nat.le_refl _) _).trans (hw.mono (by simp))⟩
  · have c0 := hbox 0 (by omega)
    have c1 := hbox 1 (by omega)
    have c2 := hbox 2 (by omega)
    have c3 := hbox 3 (by omega)
    simp only [x4] at c0 c1 c2 c3
    have Hbox := Lib.hid hbox
    clear hbox
    have heq : ∀ w, (Op.equalIn 10000 35 (.agg #[.int .u8 x0.toNat, .int .u8 x1.toNat, .int .u8 x2.toNat, .int .u8 x3.toNat]) (.agg #[.int .u8 0, .int .u8 0, .int .u8 0, .int .u8 0])).run Try.prog w = .ok ([(x0.toNat : Int), x1.toNat, x2.toNat, x3.toNat] == [0, 0, 0, 0]) w := fun w => by
      obtain ⟨i0, hi0, _⟩ := info_parts info5
      have h := run_eq_ints (P := Try.prog) (k := .u8) Try.underlying35 hi0 Try.underlying5 plain5 cells5 [(x0.toNat : Int), x1.toNat, x2.toNat, x3.toNat] [0, 0, 0, 0] rfl rfl w
      simpa using h
    by_cases hx : x0 = 0#8 ∧ x1 = 0#8 ∧ x2 = 0#8 ∧ x3 = 0#8
    · have hbt : ([(x0.toNat : Int), x1.toNat, x2.toNat, x3.toNat] == [0, 0, 0, 0]) = true := by rw [hx.1, hx.2.1, hx.2.2.1, hx.2.2.2]; rfl
      clear hx
      simp only [hbt] at heq
      go_wp2
      go_ret
      exact ⟨rfl, ((Below.refl _ _).alloc (Nat.le_refl _) _).trans (hw.mono (by simp))⟩
    · have hbt : ([(x0.toNat : Int), x1.toNat, x2.toNat, x3.toNat] == [0, 0, 0, 0]) = false := by
        rw [beq_eq_false_iff_ne]
        intro he
        simp at he
        exact hx ⟨BitVec.eq_of_toNat_eq (by simpa using he.1), BitVec.eq_of_toNat_eq (by simpa using he.2.1), BitVec.eq_of_toNat_eq (by simpa using he.2.2.1), BitVec.eq_of_toNat_eq (by simpa using he.2.2.2)⟩
      simp only [hbt] at heq
      have hmb := hb'.1
      obtain ⟨ad, hA, _⟩ := RdB.at' hb' 0 (by omega)
      subst hA
      obtain ⟨i0, hi, hz0, hz1, hz2⟩ := info_parts info5
      go_wp2_with (first
          | (at_builtin; refine wpList_append_own _ rfl (.tmp 22) (.tmp 23) 23 rfl w1.heap.size 5 i0 (.int .u8 0) 1 1 Try.underlying23 hi hz0 hz1 hz2 rfl (by decide) _ _ _ rfl (own_empty w1 5 1) ad b'.length cb (bytesV b') rfl (by simp [bytesV]) (bytesV_cells (RdB.alloc' hb' _)) (bytesV_one b') (by unfold maxLen; omega) (by omega) (by simp) ?_; intro v' w2 hown' hgrow _)
          | fail)
      simp only [Nat.zero_add, List.nil_append] at hown'
      have hb2 : Below w1.heap.size w1 w2 := ((Below.refl _ _).alloc (Nat.le_refl _) _).grown hgrow (by simp) (own_base' (own_empty w1 5 1))
      clear hgrow
      obtain ⟨g, cap, hv⟩ := Joins.ownsRow_form hown' (by omega)
      rw [hv] at hown' ⊢
      clear hv
      have Hnn := Lib.hid (near_ne b' (at'.toNat % (b'.length - 3)) (x4 x0 x1 x2 x3) (by have := Nat.mod_lt at'.toNat (show b'.length - 3 > 0 by omega); omega) hx)
      obtain ⟨K, hK, hK4, HK⟩ : ∃ K : Nat, (at'.toNat : Int) % ((b'.length : Int) - 3) = (K : Int) ∧ K + 4 ≤ b'.length ∧ Hid (K = at'.toNat % (b'.length - 3)) :=
        ⟨at'.toNat % (b'.length - 3), by rw [show ((b'.length : Int) - 3) = ((b'.length - 3 : Nat) : Int) by omega]; simp, by have := Nat.mod_lt at'.toNat (show b'.length - 3 > 0 by omega); omega, rfl⟩
      rw [← HK.out] at Hnn
      clear c0 c1 c2 c3 heq hbt
      have hat : at'.toNat < 65536 := at'.isLt
      go_wp2
      rw [hK]
      clear hK
      have Hbox2 : Hid (∀ j, j < 4 → w2.cell? ⟨w.heap.size, j, none⟩ = some (.int .u8 (x4 x0 x1 x2 x3 j).toNat)) := fun j hj => (hb2.cell (by have := hw.size; rw [size_alloc] at this; exact this)).trans (Hbox.out j hj)
      generalize x4 x0 x1 x2 x3 = X at *
      have hwb : w.heap.size < w1.heap.size := by have := hw.size; rw [size_alloc] at this; exact this
      go_loopw [9] (fun i wr => ∃ k : Nat, k ≤ 4 ∧ i = .int .i64 k ∧ wr.ownsRow w1.heap.size 5 1 (.slice (some ⟨g, 0, none⟩) b'.length cap) b'.length (bytesV (xr b' K X k)) ∧ Below w1.heap.size w1 wr) (fun i _ => 4 - (intOf i).toNat)
      case atStart => exact ⟨0, by omega, rfl, by rw [xr_zero]; exact hown', hb2⟩
      case round =>
        obtain ⟨k, hk, rfl, hown, hbel⟩ := hrel
        by_cases hlt : k < 4
        · have hc1 : wr.cell? ⟨g, K + k, none⟩ = some (.int .u8 (b'[K + k]'(by omega)).toNat) := by
            rw [hown.cellAt (K + k) (by omega)]
            simp only [bytesV]
            rw [List.getElem?_map, List.getElem?_eq_getElem (by rw [length_xr]; omega), xr_at b' K X k (by omega)]
            rfl
          have hf1 := hown.frozenAt (K + k)
          have hc2 : wr.cell? ⟨w.heap.size, k, none⟩ = some (.int .u8 (X k).toNat) := (hbel.cell hwb).trans (Hbox.out k hlt)
          have hst := hown.stored (K + k) (.int .u8 (b'[K + k]'(by omega) ^^^ X k).toNat)
          have Hst := Lib.hid hst
          clear hst
          have hX : (X k).toNat < 256 := (X k).isLt
          generalize hB : b'[K + k]'(by omega) = y at *
          have Hy := Lib.hid hB
          clear hB
          have hy : y.toNat < 256 := y.isLt
          have hkk : (K : Int) + k < b'.length := by omega
          go_wp2
          have hwr : IntKind.i64.wrap ((K : Int) + k) = (K : Int) + k := IntWalk.i64_in _ ⟨by omega, by omega⟩
          have hn0 : (0 : Int) ≤ (K : Int) + k := by omega
          have htn : ((K : Int) + k).toNat = K + k := by omega
          go_still_tail 14, (by kernel_rfl)
          change wpList _ _ _ _ _ wr.drew
          clear hwr hn0 htn
          go_wp2
          go_roundw
          case rel =>
            refine ⟨k + 1, by omega, by go_num, ?_, ?_⟩
            · rw [xr_succ b' K X k (by omega), Hy.out, xor8]
              have h := (Hst.out).1
              simp only [bytesV, List.map_set] at h ⊢
              exact h.drew
            · have h := hbel.grown (Hst.out).2 hbel.size (fun j hj => by obtain rfl := Option.some.inj hj; exact own_base' hown g rfl)
              rw [xor8]
              exact h.drew
          case measure => simp [intOf]; omega
        · have hk4 : k = 4 := by omega
          subst hk4
          have hbr : RdB wr (some ad) b' := RdR.below hb' hbel (fun _ _ h => h)
          have hcr := RdB.own hown
          have hlc : (xr b' K X 4).length = b'.length := length_xr b' K X 4
          have hcap := own_cap hown
          have hnn := Hnn.out
          generalize xr b' K X 4 = c' at *
          clear Hnn Hbox Hbox2 hown
          go_wp2_with fail
          refine (of_len [b'] _ _ _ _ rfl (RdP.one _ _ _ _ _ _ _ _ rfl hbr rfl hlb')).mono ?_
          rintro e w4 ⟨rfl, rfl⟩
          go_wp2_with fail
          refine (of_len [c'] _ _ _ _ rfl (RdP.one _ _ _ _ _ _ _ _ (by simp [size_alloc]) (RdB.alloc' hcr _) hlc.symm hcap)).mono ?_
          rintro e w4 ⟨rfl, rfl⟩
          go_wp2
          go_ret
          have h1 := (((Below.refl _ w).alloc (Nat.le_refl _) (.cells #[.int .u8 x0.toNat, .int .u8 x1.toNat, .int .u8 x2.toNat, .int .u8 x3.toNat] 35)).trans (hw.mono (by simp)))
          have h2 := h1.trans (hbel.mono h1.size)
          exact ⟨rfl, (h2.alloc h2.size _).alloc (by have := h2.size; simp; omega) _⟩
end Go.Proofs.Ytcdlpbccampfdaa
