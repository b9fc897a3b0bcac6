import Derived.Test.YtjaakhjfpigdfaaN
/-! A hash, and the bytes it took; take. -/
namespace Go.Proofs.Ytjaakhjfpigdfaa
open Go.RowKit
set_option linter.unusedVariables false
set_option linter.unusedSimpArgs false
/-- The k'th block of some bytes; the state behind the first k blocks. -/
def blk (l : By) (k : Nat) : By := (l.drop (64 * k)).take 64
def stF (l : By) : Nat → List W32
  | 0 => startL
  | k + 1 => stepL (stF l k) (blk l k)
theorem stF_len (l : By) : ∀ k, (stF l k).length = 8
  | 0 => startL_len
  | k + 1 => stepL_len _ _ (stF_len l k)
theorem blk_app (l m : By) (k : Nat) (h : 64 * (k + 1) ≤ l.length) : blk (l ++ m) k = blk l k := by
  unfold blk
  rw [List.drop_append_of_le_length (by omega), List.take_append_of_le_length (by rw [List.length_drop]; omega)]
theorem stF_app (l m : By) : ∀ k, 64 * k ≤ l.length → stF (l ++ m) k = stF l k
  | 0, _ => rfl
  | k + 1, h => by rw [stF, stF, stF_app l m k (by omega), blk_app l m k h]
def nb (l : By) : Nat := l.length / 64
def stL (l : By) : List W32 := stF l (nb l)
def restL (l : By) : By := l.drop (64 * nb l)
theorem stL_len (l : By) : (stL l).length = 8 := stF_len l _
theorem restL_len (l : By) : (restL l).length = l.length % 64 := by unfold restL nb; rw [List.length_drop]; omega
/-- A hash at g that took l. -/
def HashAt (w : World) (g : Nat) (l : By) : Prop := ∃ lv, w.heap[g]? = some (.cells (hashA (stL l) lv l.length) 60 (0, 0)) ∧ EqN w (restL l) lv
theorem HashAt.below {w w' : World} {g : Nat} {l : By} (h : HashAt w g l) (hb : Below w.heap.size w w') : HashAt w' g l := by
  obtain ⟨lv, hc, he⟩ := h
  exact ⟨lv, keepH hb hc, he.below hb⟩
theorem hashA_size (s : List W32) (hs : s.length = 8) (lv : Value) (n : Nat) : (hashA s lv n).size = 11 := by
  unfold hashA; rw [Array.size_append, U_size, hs]; rfl
theorem hash_word (s : List W32) (hs : s.length = 8) (lv : Value) (n j : Nat) (v : Value) (h : (U s)[j]? = some v) : (hashA s lv n)[j]? = some v := by
  have hj : j < (U s).size := (Array.getElem?_eq_some_iff.1 h).1
  unfold hashA
  rw [Array.getElem?_append_left hj]
  exact h
theorem hash_over8 (a b c d e f g h a' b' c' d' e' f' g' h' : W32) (lv : Value) (n : Nat) : overlay (hashA [a, b, c, d, e, f, g, h] lv n) (U [a', b', c', d', e', f', g', h']).toList 0 = hashA [a', b', c', d', e', f', g', h'] lv n := by kernel_rfl
theorem hash_setn8 (a b c d e f g h : W32) (lv : Value) (n m : Nat) : (hashA [a, b, c, d, e, f, g, h] lv n).setIfInBounds 9 (.int .u64 (m : Int)) = hashA [a, b, c, d, e, f, g, h] lv m := by kernel_rfl
theorem hash_setl8 (a b c d e f g h : W32) (lv lv' : Value) (n : Nat) : (hashA [a, b, c, d, e, f, g, h] lv n).setIfInBounds 8 lv' = hashA [a, b, c, d, e, f, g, h] lv' n := by kernel_rfl
theorem hash_over (s s' : List W32) (hs : s.length = 8) (hs' : s'.length = 8) (lv : Value) (n : Nat) : overlay (hashA s lv n) (U s').toList 0 = hashA s' lv n := by
  match s, hs, s', hs' with
  | [a, b, c, d, e, f, g, h], _, [a', b', c', d', e', f', g', h'], _ => exact hash_over8 ..
theorem hash_setn (s : List W32) (hs : s.length = 8) (lv : Value) (n m : Nat) : (hashA s lv n).setIfInBounds 9 (.int .u64 (m : Int)) = hashA s lv m := by
  match s, hs with
  | [a, b, c, d, e, f, g, h], _ => exact hash_setn8 ..
theorem hash_setl (s : List W32) (hs : s.length = 8) (lv lv' : Value) (n : Nat) : (hashA s lv n).setIfInBounds 8 lv' = hashA s lv' n := by
  match s, hs with
  | [a, b, c, d, e, f, g, h], _ => exact hash_setl8 ..
set_option maxRecDepth 100000 in
/-- No cell of a hash is a byte. -/
theorem hash_nobyte (s : List W32) (hs : s.length = 8) (k : Nat) (c : Nat) (A : Option Addr) (n j : Nat) (x : Int) : (hashA s (.slice A k c) n)[j]? ≠ some (.int .u8 x) := by
  match s, hs with
  | [a, b, c, d, e, f, g, h], _ =>
    intro hj
    have h11 : j < 11 := by
      have := (Array.getElem?_eq_some_iff.1 hj).1
      rw [hashA_size _ rfl] at this; exact this
    have hc : j = 0 ∨ j = 1 ∨ j = 2 ∨ j = 3 ∨ j = 4 ∨ j = 5 ∨ j = 6 ∨ j = 7 ∨ j = 8 ∨ j = 9 ∨ j = 10 := by omega
    rcases hc with rfl | rfl | rfl | rfl | rfl | rfl | rfl | rfl | rfl | rfl | rfl <;> simp [hashA, U] at hj
/-- Bytes that are read lie in no hash. -/
theorem byte_apart {w : World} {g : Nat} {s : List W32} (hs : s.length = 8) {A : Option Addr} {k c n : Nat} {t : TypeId} (h : w.heap[g]? = some (.cells (hashA s (.slice A k c) n) t (0, 0))) {ad : Addr} {x : Int} (hx : w.cell? ad = some (.int .u8 x)) : ad.block ≠ g := by
  intro e
  subst e
  unfold World.cell? at hx
  rw [h] at hx
  simp only at hx
  split at hx
  · cases hx
  · exact hash_nobyte s hs k c A n _ x hx
theorem RdB.bes {w w' : World} {g : Nat} {A : Option Addr} {p : By} (h : RdB w A p) (hb : Bes g w w') (hx : ∀ (ad : Addr) (x : Int), w.cell? ad = some (.int .u8 x) → ad.block ≠ g) : RdB w' A p :=
  ⟨h.1, fun j hj => by
    obtain ⟨ad, v, e, hc, hr⟩ := h.2 j hj
    refine ⟨ad, v, e, ?_, hr⟩
    have hlt := World.block_lt_of_cell? w _ hc
    rw [World.cell?_of_block (hb.block _ hlt (hx _ _ (by rw [hc]; rw [hr])))]
    exact hc⟩
theorem EqN.bes {w w' : World} {g : Nat} {p : By} {v : Value} (h : EqN w p v) (hb : Bes g w w') (hx : ∀ (ad : Addr) (x : Int), w.cell? ad = some (.int .u8 x) → ad.block ≠ g) : EqN w' p v := by
  obtain ⟨A, c, e, hl, hr, hn⟩ := h
  exact ⟨A, c, e, hl, hr.bes hb hx, hn⟩
theorem HashAt.apart {w : World} {g : Nat} {l : By} (h : HashAt w g l) : ∀ (ad : Addr) (x : Int), w.cell? ad = some (.int .u8 x) → ad.block ≠ g := by
  obtain ⟨lv, hc, A, c, rfl, _⟩ := h
  exact fun ad x hx => byte_apart (stL_len l) hc hx
theorem Bes.setRow {g : Nat} {a w : World} (h : Bes g a w) (cs : Array Value) : Bes g a (w.setRow g cs) :=
  ⟨h.os, h.tape, h.output, by simpa [World.setRow] using h.size, fun k hk hg => by rw [setRow_other _ _ _ _ hg]; exact h.block k hk hg⟩
theorem Bes.low {g : Nat} {a w w' : World} (h : Bes g a w) (hb : Below a.heap.size w w') : Bes g a w' :=
  ⟨hb.os.trans h.os, hb.tape.trans h.tape, hb.output.trans h.output, Nat.le_trans h.size hb.size, fun k hk hg => (hb.block k hk).trans (h.block k hk hg)⟩
theorem blk_len (l : By) (k : Nat) (h : 64 * (k + 1) ≤ l.length) : (blk l k).length = 64 := by unfold blk; rw [List.length_take, List.length_drop]; omega
set_option maxRecDepth 100000 in
theorem field_0 (g : Nat) (w : World) : (Instr.fieldAt 60 (.pointer (some ⟨g, 0, none⟩)) 0).run Try.prog w = .ok (.pointer (some ⟨g, 0, none⟩)) w := by
  simp [go_sem, Instr.fieldAt]
set_option maxRecDepth 100000 in
theorem slice_from64 (ad : Addr) (r c : Nat) (hr : 64 ≤ r) (hc : r ≤ c) (w : World) : (Instr.sliceAt 35 (.slice (some ad) r c) (some (.int .i64 64)) none none).run Try.prog w = .ok (.slice (if c = 64 then some ad else some (ad.add 64)) (r - 64) (c - 64)) w := by
  have h : (64 : Int) ≤ (r : Int) := by omega
  rw [run_sliceAt_slice w 35 _ _ _ _ Try.underlying35]
  rw [run_slice_l w 35 (some ad) r c Try.underlying35 .i64 64 (by omega) h]
  simp [go_sem, Try.underlying35]
set_option maxRecDepth 100000 in
theorem slice_64 (ad : Addr) (r c : Nat) (hr : 64 ≤ r) (hc : r ≤ c) (w : World) : (Instr.sliceAt 35 (.slice (some ad) r c) none (some (.int .i64 64)) none).run Try.prog w = .ok (.slice (some ad) 64 c) w := by
  have h : (64 : Int) ≤ (c : Int) := by omega
  rw [run_sliceAt_slice w 35 _ _ _ _ Try.underlying35]
  rw [run_slice_h w 35 (some ad) r c Try.underlying35 .i64 64 (by omega) h]
  simp [go_sem, Try.underlying35]
/-- What holds in a round's drawn statement. -/
structure JT (g : Nat) (wr : World) (s s' : List W32) (lv : Value) (n : Nat) (val : Nat → Value) (L : Nat → Bool) (vs : Nat → Value) (w : World) : Prop where
  vals : Vals val 12 L vs
  bes : Bes g wr w
  cells : w.heap[g]? = some (.cells (hashA (if L 12 = true then s' else s) lv n) 60 (0, 0))
  old : L 12 = false → Below wr.heap.size wr w
  last : L 12 = true → ∀ k, k < 10 → L k = true
theorem JT.step {g : Nat} {wr : World} {s s' : List W32} {lv : Value} {n : Nat} {val : Nat → Value} {L : Nat → Bool} {vs : Nat → Value} {w w' : World} (h : JT g wr s s' lv n val L vs w) (i : Nat) (u : Value) (hi : i < 12) (hu : u = val i) (hb : Below w.heap.size w w') : JT g wr s s' lv n val (upd L i true) (upd vs i u) w' :=
  ⟨h.vals.step i u (fun _ => hu), h.bes.below hb, by rw [upd_other L true (show 12 ≠ i by omega)]; exact keepH hb h.cells, fun h12 => by
    rw [upd_other L true (show 12 ≠ i by omega)] at h12
    exact (h.old h12).trans (hb.mono (h.old h12).size), fun h12 k hk => by
    rw [upd_other L true (show 12 ≠ i by omega)] at h12
    by_cases e : k = i
    · subst e; exact upd_same _ _ _
    · rw [upd_other L true e]; exact h.last h12 k hk⟩
theorem JT.early {g : Nat} {wr : World} {s s' : List W32} {lv : Value} {n : Nat} {val : Nat → Value} {L : Nat → Bool} {vs : Nat → Value} {w : World} (h : JT g wr s s' lv n val L vs w) (i : Nat) (hi : i < 10) (hL : L i = false) : L 12 = false := by
  cases hq : L 12 with
  | false => rfl
  | true => rw [h.last hq i hi] at hL; cases hL
def valT (g : Nat) (s : List W32) (s' : List W32) (ad : Addr) (r c : Nat) (B : By) : Nat → Value
  | 0 => .pointer (some ⟨g, 0, none⟩)
  | 1 => .pointer (some ⟨g, 0, none⟩)
  | 2 => .pointer (some ⟨g, 0, none⟩)
  | 3 => .pointer (some ⟨g, 0, none⟩)
  | 4 => .agg (U s)
  | 5 => .slice (some ad) r c
  | 6 => .slice (some ad) 64 c
  | 7 => .pointer (some ad)
  | 8 => .agg (V8 B)
  | 9 => .agg (U s')
  | 10 => .pointer (some ⟨g, 0, none⟩)
  | _ => .pointer (some ⟨g, 0, none⟩)
set_option maxRecDepth 100000 in
set_option maxHeartbeats 4000000 in
theorem take_any (g : Nat) (l b : By) (bv : Value) (w : World) (h : HashAt w g l) (hbv : EqN w b bv) (hlen : l.length + b.length ≤ 140737488355328) : Calls Try.prog 72 #[.pointer (some ⟨g, 0, none⟩), bv] w fun e w' => e = .returned (.tuple #[]) ∧ HashAt w' g (l ++ b) ∧ Bes g w w' := by
  have hap := h.apart
  obtain ⟨lv, hc, hlv⟩ := h
  have HLV := Lib.hid (show ∃ a k c, lv = .slice a k c from by obtain ⟨a, c, e, _⟩ := hlv; exact ⟨a, _, c, e⟩)
  have hg : g < w.heap.size := (Array.getElem?_eq_some_iff.1 hc).1
  have hsl := stL_len l
  have q9 : w.cell? ⟨g, 9, none⟩ = some (.int .u64 (l.length : Int)) := by rw [Joins.cell_of_block hc]; exact hash_n _ hsl _ _
  have q8 : w.cell? ⟨g, 8, none⟩ = some lv := by rw [Joins.cell_of_block hc]; exact hash_left _ hsl _ _
  have f9 := fr_of hc 9
  have hc0 : (w.setCell ⟨g, 9, none⟩ (.int .u64 ((l.length + b.length : Nat) : Int))).heap[g]? = some (.cells (hashA (stL l) lv (l.length + b.length)) 60 (0, 0)) := by
    have := heap_setCell hc 9 (.int .u64 ((l.length + b.length : Nat) : Int))
    rw [hash_setn _ hsl] at this
    exact this
  have hb0 : Bes g w (w.setCell ⟨g, 9, none⟩ (.int .u64 ((l.length + b.length : Nat) : Int))) := (Bes.refl g w).setCell 9 _
  have hlv0 := hlv.bes hb0 hap
  have hbv0 := hbv.bes hb0 hap
  have CL := clone_any (restL l) lv _ hlv0 (by rw [restL_len]; omega)
  rw [show (((l.length + b.length : Nat) : Int)) = (l.length : Int) + (b.length : Int) by push_cast; rfl] at hc0 hb0 hlv0 hbv0 CL
  obtain ⟨A, c, rfl, hbc, hbr, hbn⟩ := hbv
  obtain ⟨W0, hW0⟩ : ∃ W, w.setCell ⟨g, 9, none⟩ (.int .u64 ((l.length : Int) + (b.length : Int))) = W := ⟨_, rfl⟩
  rw [hW0] at hc0 hb0 hlv0 hbv0 CL
  have HW0 := Lib.hid hW0
  replace CL := Lib.hid CL
  replace hap := Lib.hid hap
  have hs0 : W0.heap.size = w.heap.size := by rw [← hW0]; simp [World.setCell]
  have HS0 := Lib.hid hs0
  replace hc0 := Lib.hid hc0
  replace hb0 := Lib.hid hb0
  replace hlv0 := Lib.hid hlv0
  replace hbv0 := Lib.hid hbv0
  clear hlv hc hW0 hs0 hsl
  go_enter Try.func72, Try.ntmps72
  go_wp2_with fail
  rw [HW0.out]
  refine CL.out.mono ?_
  rintro e w2 ⟨v1, rfl, hown1, hb2⟩
  rw [HS0.out] at hown1
  have hbr2 : RdB w2 A b := by
    obtain ⟨A', c', e, _, hr, _⟩ := hbv0.out.below hb2
    have e2 : A = A' := by injection e
    rw [e2]; exact hr
  have hc2 := keepH hb2 hc0.out
  have hbes2 := hb0.out.below hb2
  have HO1 := Lib.hid hown1
  replace hbr2 := Lib.hid hbr2
  replace hc2 := Lib.hid hc2
  replace hbes2 := Lib.hid hbes2
  have hlt2 : w.heap.size ≤ w2.heap.size := hbes2.out.size
  clear CL hown1 hb2 HW0 HS0 hc0 hb0 hlv0 hbv0 q9 q8 f9 hbr
  go_wp2_with (first | (at_builtin; refine wpList_append_bytes rfl (.tmp 19) (.tmp 20) rfl w.heap.size v1 (restL l).length (bytesV (restL l)) rfl HO1.out A c b rfl hbr2.out hbn hbc (by have := restL_len l; omega) hlt2 ?_; intro v2 w3 hown hgrow _; have hb3 : Below w.heap.size w2 w3 := (Below.refl _ _).grown hgrow hlt2 (own_base' HO1.out); have HO2 := Lib.hid hown; clear hown hgrow) | fail)
  have hrl := restL_len l
  obtain ⟨T, hT⟩ : ∃ T, l ++ b = T := ⟨_, rfl⟩
  have hTl : T.length = l.length + b.length := by rw [← hT, List.length_append]
  have hE : EqN w3 (T.drop (64 * nb l)) v2 := by
    have e : T.drop (64 * nb l) = restL l ++ b := by rw [← hT, List.drop_append_of_le_length (by unfold nb; omega)]; rfl
    rw [e]
    have := HO2.out
    rw [← bytesV_app] at this
    exact EqN.own this
  have hc3 : w3.heap[g]? = some (.cells (hashA (stF T (nb l)) lv T.length) 60 (0, 0)) := by
    have := below_heap hb3 hc2.out hg
    rw [show stL l = stF T (nb l) by rw [← hT, stF_app l b (nb l) (by unfold nb; omega)]; rfl, ← hTl] at this
    exact this
  have hbes3 := hbes2.out.low hb3
  have hnb : 64 * nb l ≤ T.length := by rw [hTl]; unfold nb; omega
  have HT := Lib.hid hT
  replace hE := Lib.hid hE
  replace hc3 := Lib.hid hc3
  replace hbes3 := Lib.hid hbes3
  have hTm : T.length ≤ 140737488355328 := by omega
  clear hT hTl HO2 hb3 hc2 hbes2 hbr2 HO1 hlen hrl hlt2
  go_loopg [4] (T.length / 64 - nb l) (fun gk v4 wr => ∃ i : Nat, 64 * i ≤ T.length ∧ gk = T.length / 64 - i ∧ EqN wr (T.drop (64 * i)) v4 ∧ wr.heap[g]? = some (.cells (hashA (stF T i) lv T.length) 60) ∧ Bes g w wr)
  case atStart => exact ⟨nb l, hnb, rfl, hE.out, hc3.out, hbes3.out⟩
  case round =>
    clear hE hc3 hbes3 hnb
    obtain ⟨i, hi, rfl, hE, hcg, hbes⟩ := hrel
    obtain ⟨A, c, rfl, hcl, hr, hn⟩ := hE
    have hsl := stF_len T i
    by_cases hlt : 64 ≤ (T.drop (64 * i)).length
    · obtain ⟨ad, rfl⟩ : ∃ ad, A = some ad := by
        cases A with
        | none => have := hn rfl; omega
        | some ad => exact ⟨ad, rfl⟩
      have hdl : (T.drop (64 * i)).length = T.length - 64 * i := List.length_drop
      have hbl := blk_len T i (by omega)
      have hbk : ∀ j v, (V8 (blk T i))[j]? = some v → ∀ w', Below wr.heap.size wr w' → w'.cell? (ad.add j) = some v := by
        intro j v hv w' hb'
        have hj : j < 64 := by
          have := (Array.getElem?_eq_some_iff.1 hv).1
          rw [V8_size, hbl] at this; exact this
        obtain ⟨ad', e, hcell⟩ := RdB.at' hr j (by omega)
        have e2 : ad = ad' := by injection e
        subst e2
        rw [hb'.cell (World.block_lt_of_cell? wr _ hcell), hcell]
        rw [← hv]
        unfold V8 blk
        simp [hj]
        rw [List.getElem?_eq_getElem (by omega)]
        rfl
      obtain ⟨r, hrr⟩ : ∃ r, (T.drop (64 * i)).length = r := ⟨_, rfl⟩
      rw [hrr] at hlt hcl hdl ⊢
      have HR := Lib.hid hr
      have HC := Lib.hid hcg
      have HBK := Lib.hid hbk
      have HB := Lib.hid hbes
      have HS := Lib.hid hsl
      have hltI : (64 : Int) ≤ (r : Int) := by omega
      replace hdl := Lib.hid hdl
      obtain ⟨s, hs⟩ : ∃ s, stF T i = s := ⟨_, rfl⟩
      obtain ⟨B, hB⟩ : ∃ B, blk T i = B := ⟨_, rfl⟩
      rw [hs] at HC HS
      rw [hB] at HBK hbl
      have HN := Lib.hid (show stF T (i + 1) = stepL s B by rw [stF, hs, hB])
      replace hbl := Lib.hid hbl
      clear hr hcg hbk hbes hsl hrr hn hs hB
      go_wp2
      have hsz := stepL_len s B HS.out
      refine wp_region_inv (by kernel_rfl) (by kernel_rfl) (by kernel_rfl) (JT g wr s (stepL s B) lv T.length (valT g s (stepL s B) ad r c B)) ⟨Vals.start _ _, (Bes.refl _ _).drew, HC.out, fun _ => (Below.refl _ _).drew, fun h => by cases h⟩ ?_ ?_
      · intro i hi o L vs w1 bb ho hL hn hJ hcame hstood K hK
        have hi10 : i < 13 := hi
        have ev : ∀ k t, dstAt _ k = some t → L k = true → t < _ → k < 12 → bb.eval (.tmp t) = valT g s (stepL s B) ad r c B k := fun k t h1 h2 h3 h4 => (hcame k t h1 h2 h3).trans (hJ.vals k h4 h2)
        have hc : i = 0 ∨ i = 1 ∨ i = 2 ∨ i = 3 ∨ i = 4 ∨ i = 5 ∨ i = 6 ∨ i = 7 ∨ i = 8 ∨ i = 9 ∨ i = 10 ∨ i = 11 ∨ i = 12 := by omega
        rcases hc with rfl | rfl | rfl | rfl | rfl | rfl | rfl | rfl | rfl | rfl | rfl | rfl | rfl
        · obtain rfl := Option.some.inj ho
          have e := hstood 0 (by kernel_rfl)
          exact wp_val (.pointer (some ⟨g, 0, none⟩)) (by simp [execOp, e]; rfl) (hK _ _ (hJ.step 0 _ (by decide) rfl (Below.refl _ _)))
        · obtain rfl := Option.some.inj ho
          have e := hstood 0 (by kernel_rfl)
          exact wp_val (.pointer (some ⟨g, 0, none⟩)) (by simp [execOp, e]; rfl) (hK _ _ (hJ.step 1 _ (by decide) rfl (Below.refl _ _)))
        · obtain rfl := Option.some.inj ho
          have e := ev 1 26 (by kernel_rfl) (hn 1 (by kernel_rfl)) (of_decide_eq_true (by kernel_rfl)) (by decide)
          exact wp_val (.pointer (some ⟨g, 0, none⟩)) (by simp [execOp, e, valT]) (hK _ _ (hJ.step 2 _ (by decide) rfl (Below.refl _ _)))
        · obtain rfl := Option.some.inj ho
          have e := ev 2 27 (by kernel_rfl) (hn 2 (by kernel_rfl)) (of_decide_eq_true (by kernel_rfl)) (by decide)
          have hf := field_0 g w1
          exact wp_val (.pointer (some ⟨g, 0, none⟩)) (by simp [execOp, e, valT, hf]) (hK _ _ (hJ.step 3 _ (by decide) rfl (Below.refl _ _)))
        · obtain rfl := Option.some.inj ho
          have e := ev 3 28 (by kernel_rfl) (hn 3 (by kernel_rfl)) (of_decide_eq_true (by kernel_rfl)) (by decide)
          have h12 := hJ.early 4 (by decide) hL
          have hcg := hJ.cells
          rw [h12] at hcg
          exact wp_load_cells 31 (.tmp 28) rfl ⟨g, 0, none⟩ e (U s) _ rfl (fun j v hv => by rw [add_zero_off, Joins.cell_of_block hcg]; exact hash_word s HS.out _ _ j v hv) Try.underlying31 (by rw [U_size, HS.out]; kernel_rfl) (hK _ _ (hJ.step 4 _ (by decide) rfl (Below.refl _ _)))
        · obtain rfl := Option.some.inj ho
          have e := hstood 4 (by kernel_rfl)
          exact wp_val (.slice (some ad) r c) (by simp [execOp, e]; rfl) (hK _ _ (hJ.step 5 _ (by decide) rfl (Below.refl _ _)))
        · obtain rfl := Option.some.inj ho
          have e := ev 5 30 (by kernel_rfl) (hn 5 (by kernel_rfl)) (of_decide_eq_true (by kernel_rfl)) (by decide)
          have hf := slice_64 ad r c hlt hcl w1
          have e2 : bb.eval (.const (.int .i64 64)) = .int .i64 64 := rfl
          exact wp_val (.slice (some ad) 64 c) (by simp [execOp, e, e2, valT, hf]) (hK _ _ (hJ.step 6 _ (by decide) rfl (Below.refl _ _)))
        · obtain rfl := Option.some.inj ho
          have e := ev 6 31 (by kernel_rfl) (hn 6 (by kernel_rfl)) (of_decide_eq_true (by kernel_rfl)) (by decide)
          have hf := run_arrayAt (P := Try.prog) w1 32 5 64 (some ad) 64 c Try.underlying32 (Nat.le_refl _)
          exact wp_val (.pointer (some ad)) (by simp [execOp, e, valT, hf]) (hK _ _ (hJ.step 7 _ (by decide) rfl (Below.refl _ _)))
        · obtain rfl := Option.some.inj ho
          have e := ev 7 32 (by kernel_rfl) (hn 7 (by kernel_rfl)) (of_decide_eq_true (by kernel_rfl)) (by decide)
          have h12 := hJ.early 8 (by decide) hL
          exact wp_load_cells 32 (.tmp 32) rfl ad e (V8 B) _ rfl (fun j v hv => HBK.out j v hv w1 (hJ.old h12)) Try.underlying32 (by rw [V8_size, hbl.out]; kernel_rfl) (hK _ _ (hJ.step 8 _ (by decide) rfl (Below.refl _ _)))
        · obtain rfl := Option.some.inj ho
          have e4 := ev 4 29 (by kernel_rfl) (hn 4 (by kernel_rfl)) (of_decide_eq_true (by kernel_rfl)) (by decide)
          have e8 := ev 8 33 (by kernel_rfl) (hn 8 (by kernel_rfl)) (of_decide_eq_true (by kernel_rfl)) (by decide)
          refine wp_call_fn 28 #[.tmp 29, .tmp 33] #[31, 32] rfl Try.f28 _ Try.func28 (by kernel_rfl) rfl #[.agg (U s), .agg (V8 B)] (by simp [e4, e8, valT]) ((step_any s HS.out B hbl.out w1).mono ?_)
          rintro e w' ⟨rfl, hb⟩
          exact ⟨_, rfl, hK _ _ (hJ.step 9 _ (by decide) rfl hb)⟩
        · obtain rfl := Option.some.inj ho
          have e := ev 0 25 (by kernel_rfl) (hn 0 (by kernel_rfl)) (of_decide_eq_true (by kernel_rfl)) (by decide)
          exact wp_val (.pointer (some ⟨g, 0, none⟩)) (by simp [execOp, e, valT]) (hK _ _ (hJ.step 10 _ (by decide) rfl (Below.refl _ _)))
        · obtain rfl := Option.some.inj ho
          have e := ev 10 35 (by kernel_rfl) (hn 10 (by kernel_rfl)) (of_decide_eq_true (by kernel_rfl)) (by decide)
          have hf := field_0 g w1
          exact wp_val (.pointer (some ⟨g, 0, none⟩)) (by simp [execOp, e, valT, hf]) (hK _ _ (hJ.step 11 _ (by decide) rfl (Below.refl _ _)))
        · obtain rfl := Option.some.inj ho
          have e := ev 11 36 (by kernel_rfl) (hn 11 (by kernel_rfl)) (of_decide_eq_true (by kernel_rfl)) (by decide)
          have e9 := ev 9 34 (by kernel_rfl) (hn 9 (by kernel_rfl)) (of_decide_eq_true (by kernel_rfl)) (by decide)
          have hcg := hJ.cells
          rw [hL] at hcg
          refine wp_store_over 31 (.tmp 36) (.tmp 34) rfl g (U (stepL s B)) e e9 60 _ hcg (by rw [U_size, hsz]; kernel_rfl) (by rw [U_size, hsz]; show 8 ≤ (hashA s lv _).size; rw [hashA_size s HS.out]; decide) (U_one _) (hK _ _ ?_)
          rw [show (if false = true then stepL s B else s) = s from rfl, hash_over s (stepL s B) HS.out hsz]
          refine ⟨hJ.vals.step 12 _ (fun h => absurd h (by decide)), hJ.bes.setRow _, by rw [upd_same]; exact setRow_heap _ _ _ _ _ _ hcg, (fun h => by rw [upd_same] at h; cases h), fun _ k hk => ?_⟩
          rw [upd_other L true (show k ≠ 12 by omega)]
          have hc : k = 0 ∨ k = 1 ∨ k = 2 ∨ k = 3 ∨ k = 4 ∨ k = 5 ∨ k = 6 ∨ k = 7 ∨ k = 8 ∨ k = 9 := by omega
          rcases hc with rfl | rfl | rfl | rfl | rfl | rfl | rfl | rfl | rfl | rfl
          all_goals exact hn _ (by kernel_rfl)
      · intro vs w1 L hall hJ
        have al := fun j (h : j < 13) => hall j h
        clear hall
        have hq : ∀ k, k < 12 → vs k = valT g s (stepL s B) ad r c B k := fun k hk => hJ.vals k hk (al k (by omega))
        have q0 := hq 0 (by decide)
        have q1 := hq 1 (by decide)
        have q2 := hq 2 (by decide)
        have q3 := hq 3 (by decide)
        have q4 := hq 4 (by decide)
        have q5 := hq 5 (by decide)
        have q6 := hq 6 (by decide)
        have q7 := hq 7 (by decide)
        have q8 := hq 8 (by decide)
        have q9 := hq 9 (by decide)
        have q10 := hq 10 (by decide)
        have q11 := hq 11 (by decide)
        have hcg := hJ.cells
        rw [if_pos (al 12 (by decide))] at hcg
        have hb1 := hJ.bes
        rw [putAll_lit [some 25, some 26, some 27, some 28, some 29, some 30, some 31, some 32, some 33, some 34, some 35, some 36, none] (by kernel_rfl)]
        simp only [putD, Act.put, List.setIfInBounds_toArray, List.set_cons_zero, List.set_cons_succ, q0, q1, q2, q3, q4, q5, q6, q7, q8, q9, q10, q11, valT]
        clear al hJ q0 q1 q2 q3 q4 q5 q6 q7 q8 q9 q10 q11 hq hsz
        have HRB := Lib.hid (show EqN w1 (T.drop (64 * (i + 1))) (.slice (if c = 64 then some ad else some (ad.add 64)) (r - 64) (c - 64)) from by
          have hr1 : RdB w1 (some ad) (T.drop (64 * i)) := HR.out.bes hb1 (fun a x hx => by
            obtain ⟨a', k', c', e'⟩ := HLV.out
            have h := HC.out
            rw [e'] at h
            exact byte_apart HS.out h hx)
          have hd := hr1.drop 64 c (by rw [List.length_drop]; have := hdl.out; omega) (by rw [List.length_drop]; have := hdl.out; omega)
          rw [List.drop_drop, show 64 * i + 64 = 64 * (i + 1) by omega] at hd
          refine ⟨_, c - 64, by rw [List.length_drop]; have := hdl.out; congr 1; omega, by rw [List.length_drop]; have := hdl.out; omega, ?_, (fun h => by split at h <;> cases h)⟩
          simpa using hd)
        have hsf := slice_from64 ad r c hlt hcl
        have HB1 := Lib.hid (HB.out.trans hb1)
        have HCG := Lib.hid hcg
        obtain ⟨A2, hA2⟩ : ∃ A2, (if c = 64 then some ad else some (ad.add 64)) = A2 := ⟨_, rfl⟩
        rw [hA2] at HRB hsf
        clear hb1 hcg HR HC HB HBK hbl hA2
        go_wp2
        go_roundg (T.length / 64 - (i + 1))
        case measure => have := hdl.out; omega
        case rel => exact ⟨i + 1, by have := hdl.out; omega, rfl, HRB.out, by rw [HN.out]; exact HCG.out, HB1.out⟩
    · have e0 : i = nb T := by
        have : (T.drop (64 * i)).length = T.length - 64 * i := List.length_drop
        unfold nb; omega
      have e1 : T.drop (64 * i) = restL T := by rw [e0]; rfl
      have e2 : stF T i = stL T := by rw [e0]; rfl
      rw [e1] at hr hcl hlt ⊢
      rw [e2] at hcg hsl
      have hrl := restL_len T
      have hE : EqN wr (restL T) (.slice A (restL T).length c) := ⟨A, c, rfl, hcl, hr, hn⟩
      have CL := Lib.hid (clone_any (restL T) _ wr hE (by omega))
      have hdec : ¬ (64 : Int) ≤ ((restL T).length : Int) := by omega
      obtain ⟨r, hrr⟩ : ∃ r, (restL T).length = r := ⟨_, rfl⟩
      rw [hrr] at CL hdec ⊢
      have hgr : g < wr.heap.size := (Array.getElem?_eq_some_iff.1 hcg).1
      have HC := Lib.hid hcg
      have HB := Lib.hid hbes
      have HS := Lib.hid hsl
      have HRR := Lib.hid hrr
      clear hE hr hcg hbes hsl hn e0 e1 e2 hlt hcl hrl hrr
      go_wp2_with fail
      refine CL.out.mono ?_
      rintro e w4 ⟨v5, rfl, hown5, hb5⟩
      have h5 : EqN w4 (restL T) v5 := EqN.own hown5
      have hc5 := keepH hb5 HC.out
      have hap5 : ∀ (ad : Addr) (x : Int), w4.cell? ad = some (.int .u8 x) → ad.block ≠ g := fun a x hx => by
        obtain ⟨a', k', c', e'⟩ := HLV.out
        have h := hc5
        rw [e'] at h
        exact byte_apart HS.out h hx
      have hbe : Bes g w4 (w4.setCell ⟨g, 8, none⟩ v5) := (Bes.refl g w4).setCell 8 _
      have H5 := Lib.hid (h5.bes hbe hap5)
      have HB5 := Lib.hid ((HB.out.below hb5).trans hbe)
      have q8 : w4.cell? ⟨g, 8, none⟩ = some lv := by rw [Joins.cell_of_block hc5]; exact hash_left _ HS.out _ _
      have f8 := fr_of hc5 8
      have HC5 := Lib.hid (heap_setCell hc5 8 v5)
      obtain ⟨A5, r5, c5, rfl⟩ : ∃ a k c, v5 = .slice a k c := by obtain ⟨a, c, e, _⟩ := h5; exact ⟨a, _, c, e⟩
      clear CL hown5 hb5 h5 hc5 hap5 hbe HC HB
      go_wp2
      refine bodyPost_end (results_none rfl _ _ _) rfl ?_
      refine ⟨rfl, ?_, HB5.out⟩
      rw [HT.out]
      have := HC5.out
      rw [hash_setl _ HS.out] at this
      exact ⟨_, this, H5.out⟩
end Go.Proofs.Ytjaakhjfpigdfaa
