import Derived.Test.YtinkcffkhbaleaaOD
import Derived.Laws.AppendOwnNone
import Derived.Laws.BitsAllLaws
/-! SearchFinds. -/
namespace Go.Proofs.Ytinkcffkhbaleaa
open Go.RowKit
set_option linter.unusedVariables false
set_option linter.unusedSimpArgs false
theorem below_setCells {B : Nat} {a : World} : ∀ {W : World} (h : Below B a W) {g : Nat} (hg : B ≤ g) (o : Nat) (vs : List Value), Below B a (W.setCells g o vs)
  | _, h, _, _, _, [] => h
  | _, h, _, hg, o, v :: vs => below_setCells (h.setCell (p := ⟨_, o, none⟩) hg v) hg (o + 1) vs
theorem digV_one (d : List (BitVec 8)) : ∀ v ∈ digV d, v.oneCell' = true := by
  intro v hv
  simp only [digV, List.map_map, List.mem_map] at hv
  obtain ⟨x, _, rfl⟩ := hv
  rfl
theorem xor_one (b : BitVec 8) : bits .xor .u8 (b.toNat : Int) 1 = ((b ^^^ 1).toNat : Int) := by
  have h := u8_xor_nat b.toNat 1 b.isLt (by decide)
  rw [BitVec.toNat_xor]
  simpa using h
theorem OwnD.mono {w : World} {base base' : Nat} {B : Option Addr} {l : List (List (BitVec 8))} (h : OwnD w base B l) (hb : base' ≤ base) : OwnD w base' B l :=
  ⟨h.1, fun j hj => by
    obtain ⟨h32, g, e, hg, hc⟩ := h.2 j hj
    exact ⟨h32, g, e, by omega, hc⟩⟩
def zero32 : Value := .agg (Array.replicate 32 (.int .u8 0))
theorem info47 : (Try.prog.info? 47).map (fun i => (i.zero, i.size, i.bytes)) = some (some zero32, 32, 32) := by kernel_rfl
theorem wpList_load_at {P : Program} {ops : Array Oper} {rest : List Oper} {op : Oper} {a : Act} {w : World} {Q : Exit → Act → World → Prop} (hgd : op.guard = none) (ty : TypeId) (x : Operand) (ho : op.op = .load ty x) (p : Value) (hx : a.eval x = p) (v : Value) (h : (Instr.loadAt ty p).run P w = .ok v w)
    (hn : wpList P ops Q rest (a.put op.dst v) w) : wpList P ops Q (op :: rest) a w :=
  wpList_plain hgd fun K hK => by
    unfold Oper.wp
    rw [exec_load ty x ho p hx v h]
    exact hK _ _ hn
set_option maxRecDepth 100000 in
set_option maxHeartbeats 4000000 in
theorem finds_some (la : List (List (BitVec 8))) (A : Option Addr) (ca : Nat) (lb : List (List (BitVec 8))) (bd : Addr) (cb : Nat) (s : BitVec 16) (w : World) (ra : RdD w A la) (hla : la.length ≤ ca) (rb : RdD w (some bd) lb) (hlb : lb.length ≤ cb) :
    Calls Try.prog 7 #[.slice A la.length ca, .slice (some bd) lb.length cb, .int .u16 s.toNat] w fun e w' => e = .returned (.bool true) ∧ Below w.heap.size w w' := by
  have FA := fun w => fewd_any A la.length ca w hla ra.1
  have FB := fun w => fewd_any (some bd) lb.length cb w hlb rb.1
  rw [few_len] at FA FB
  have la3 : (la.take 3000).length ≤ 3000 := by rw [List.length_take]; omega
  have lb3 : (lb.take 3000).length ≤ 3000 := by rw [List.length_take]; omega
  have ra' := ra.take 3000
  have rb' := rb.take 3000
  generalize la.take 3000 = xa at *
  generalize lb.take 3000 = xb at *
  replace FA := Lib.hid FA
  replace FB := Lib.hid FB
  clear ra rb hla hlb
  have hb32 := rb'.all32
  obtain ⟨i0, hi, hz0, hz1, hz2⟩ := info_parts info47
  have hzs : zero32.cells.size = 32 := by simp [zero32, Value.cells]
  have hs := s.isLt
  generalize s.toNat = sn at *
  go_enter Try.func7, Try.ntmps7
  go_upto_region 4 with (first | (go_at_call 22; (with_reducible refine (FA.out _).mono ?_); rintro e w' ⟨rfl, rfl⟩) | (go_at_call 22; (with_reducible refine (FB.out _).mono ?_); rintro e w' ⟨rfl, rfl⟩) | (go_at_call 15; refine (awake_any _).mono ?_; rintro e w1 ⟨rfl, b1⟩) | (at_builtin; go_loud (refine wpList_append_own _ rfl (.tmp 15) (.tmp 17) 40 rfl w1.heap.size 47 i0 zero32 32 32 Try.underlying40 hi hz0 hz1 hz2 hzs (by decide) _ _ _ rfl (own_empty w1 47 32) bd xb.length cb (xb.flatMap digV) rfl (flat_len xb hb32) (RdD.flat ((rb'.below b1).below ((Below.refl _ _).alloc (Nat.le_refl _) _))) (flat_one _) (by unfold maxLen; omega) (by omega) (by simp) ?_; intro v2 w2 own2 grow2 iff2; clear iff2)))
  have b2 : Below w1.heap.size w1 w2 := ((Below.refl _ _).alloc (Nat.le_refl _) _).grown grow2 (by simp) (own_base' (own_empty w1 47 32))
  simp only [Nat.zero_add, List.nil_append] at own2
  obtain ⟨B', cap', rfl, hcap, od⟩ := OwnD.own hb32 rfl own2
  have bel : Below w.heap.size w w2 := b1.trans (b2.mono b1.size)
  have ra2 : RdD w2 A xa := (ra'.below b1).below b2
  have hbase := b1.size
  have ra0 := ra'
  clear own2 grow2 b2 ra' rb' b1 hi hz0 hz1 hz2 hzs
  have RA := Lib.hid ra0
  clear ra2 ra0
  have hm : (if xb.length < xa.length then (xb.length : Int) else (xa.length : Int)) = ((min xa.length xb.length : Nat) : Int) := by split <;> omega
  obtain ⟨m, hmm⟩ : ∃ m, min xa.length xb.length = m := ⟨_, rfl⟩
  rw [hmm] at hm
  obtain ⟨k, hk⟩ : ∃ k : Nat, (sn : Int) % ((m : Int) + 1) = (k : Int) := ⟨sn % (m + 1), by push_cast; rfl⟩
  have hkm : k ≤ m := by have := Int.emod_lt_of_pos (sn : Int) (show (0 : Int) < (m : Int) + 1 by omega); omega
  go_upto_region 5 with fail
  rw [hk]
  obtain ⟨T, hT, hTk⟩ := find_just xa xb k m hmm.symm hkm hb32 la3 lb3
  have HF := fun w ra rb => find_any xa (partB xa xb k m) A B' ca cap' w ra rb la3 (by rw [partB_len]; exact lb3) T hT
  rw [hTk, partB_len] at HF
  replace HF := Lib.hid HF
  have hma : m ≤ xa.length := by omega
  have hmb : m ≤ xb.length := by omega
  have Hmm := Lib.hid hmm
  clear hm hk hT hTk hmm
  go_wp2
  go_loopw [8] (fun iv wr => ∃ i : Nat, i ≤ m ∧ iv = .int .i64 (i : Int) ∧ OwnD wr w.heap.size B' (partB xa xb k i) ∧ Below w.heap.size w wr) (fun iv _ => m - (intOf iv).toNat)
  case atStart => exact ⟨0, Nat.zero_le _, rfl, od.mono hbase, bel⟩
  case round =>
    obtain ⟨i, him, rfl, own, bw⟩ := hrel
    have rw' := RA.out.below bw
    have hsw := bw.size
    rcases Nat.lt_or_ge i m with hlt | hge
    · have hia : i < xa.length := by omega
      have hib : i < xb.length := by omega
      have hip : i < (partB xa xb k i).length := by rw [partB_len]; exact hib
      have hpi := partB_at xa xb k i hib hip
      have hXl : (xa[i]).length = 32 := (rw'.2 i hia).1
      have hYl : (xb[i]).length = 32 := hb32 _ (List.getElem_mem hib)
      have hone : oneB xa xb k i = if i < k then xa[i] else if xb[i] == xa[i] then flip xb[i] else xb[i] := by
        unfold oneB
        simp [List.getD_eq_getElem?_getD, List.getElem?_eq_getElem hia, List.getElem?_eq_getElem hib]
      obtain ⟨ad, rfl, _⟩ := rw'.load i hia
      obtain ⟨_, g, rfl, hg, _⟩ := own.2 i hip
      have c1 : (i : Int) < xa.length := by omega
      have c2 : (i : Int) < xb.length := by omega
      have c0 : (0 : Int) ≤ (i : Int) := by omega
      have hwi : IntKind.i64.wrap (i : Int) = (i : Int) := by rw [IntKind.wrap_i64]; omega
      have hset := fun d hd => own.set i hip d hd
      have hflip := own.flip i hip
      rw [hpi] at hflip
      have hth := own.there i hip
      have hcell0 := own.2 i hip
      rw [hpi] at hcell0
      have LA : ∀ W, RdD W (some ad) xa → (Instr.loadAt 47 (.pointer (some (ad.add (i * 32))))).run Try.prog W = .ok (.agg (digV xa[i]).toArray) W := by
        intro W hb
        obtain ⟨ad', e, h⟩ := hb.load i hia
        cases e; exact h
      have LB : ∀ W, OwnD W w.heap.size (some ⟨g, 0, none⟩) (partB xa xb k i) → (Instr.loadAt 47 (.pointer (some ⟨g, i * 32, none⟩))).run Try.prog W = .ok (.agg (digV xb[i]).toArray) W := by
        intro W hb
        obtain ⟨ad', e, h⟩ := hb.rd.load i hip
        cases e
        rw [hpi, add_zero_at, Nat.zero_add] at h
        exact h
      have EQ := eq_digs xb[i] xa[i] hYl hXl
      have hnext : ∀ d, d = oneB xa xb k i → (partB xa xb k i).set i d = partB xa xb k (i + 1) := by rintro d rfl; rfl
      have hhere : oneB xa xb k i = xb[i] → partB xa xb k i = partB xa xb k (i + 1) := by
        intro h
        rw [← hnext _ h.symm, ← hpi, List.set_getElem_self]
      generalize xa[i] = X at *
      generalize xb[i] = Y at *
      replace LA := Lib.hid LA
      replace LB := Lib.hid LB
      have Hone := Lib.hid hone
      have Hset := Lib.hid hset
      have Hflip := Lib.hid hflip
      have Hth := Lib.hid hth
      have Hcell := Lib.hid hcell0
      have Hn := Lib.hid hnext
      have Hh := Lib.hid hhere
      have Hpi := Lib.hid hpi
      have hip' := hip
      clear hone hset hflip hth hcell0 hnext hhere hpi
      have hXs : (digV X).toArray.size = 32 := by simp [digV_len, hXl]
      rcases Nat.lt_or_ge i k with hik | hik
      · have hik' : (i : Int) < (k : Int) := by omega
        go_upto_region 9 with fail
        go_wp2_with (first | (refine wpList_load_at rfl 47 (.tmp 47) rfl (.pointer (some (ad.add (i * 32)))) (by kernel_rfl) _ (LA.out wr rw') ?_) | (refine wpList_store_mid rfl 47 (.tmp 49) (.tmp 48) rfl g (i * 32) (digV X).toArray (by kernel_rfl) (by kernel_rfl) (by rw [hXs]; exact Hth.out) (by rw [hXs]; kernel_rfl) (all_oneCell_toArray (digV_one X)) ?_))
        have own2 := Hset.out X hXl
        rw [Hn.out X (by rw [Hone.out, if_pos hik])] at own2
        go_roundw
        case rel => exact ⟨i + 1, by omega, by go_num, own2, below_setCells bw hg _ _⟩
        case measure => simp [intOf]; omega
      · have hik' : ¬ ((i : Int) < (k : Int)) := by omega
        have hik'' : ¬ (i < k) := by omega
        have hS0 : RdD wr.drew (some ad) xa ∧ OwnD wr.drew w.heap.size (some ⟨g, 0, none⟩) (partB xa xb k i) := ⟨rw'.below (Below.refl _ _).drew, own.below (Below.refl _ _).drew⟩
        cases hE : (Y == X) with
        | true =>
          rw [hE] at EQ
          go_upto_region 10 with fail
          refine wp_region_noPanic ?_
          refine wp_region_held_drew (S := fun W => RdD W (some ad) xa ∧ OwnD W w.heap.size (some ⟨g, 0, none⟩) (partB xa xb k i)) (by kernel_rfl) hS0 (fun _ => ?_)
          refine wpAnyH_take (i := 0) (v := ?_) rfl (by kernel_rfl) (by kernel_rfl) (by kernel_rfl) (fun _ _ _ h => h) (Or.inl ⟨by kernel_rfl, ?_⟩) (hS0) ?_
          rotate_left
          · intro W hSw
            go_simp
            all_goals with_reducible rfl
          try simp only [Act.put, List.setIfInBounds_toArray, List.set_cons_zero, List.set_cons_succ]
          refine wpAnyH_take (i := 1) (v := .int .i64 (i : Int)) rfl (by kernel_rfl) (by kernel_rfl) (by kernel_rfl) (fun _ _ _ h => h) (Or.inl ⟨by kernel_rfl, ?_⟩) (hS0) ?_
          · intro W hSw
            go_simp
          try simp only [Act.put, List.setIfInBounds_toArray, List.set_cons_zero, List.set_cons_succ]
          refine wpAnyH_take (i := 2) (v := .pointer (some ⟨g, i * 32, none⟩)) rfl (by kernel_rfl) (by kernel_rfl) (by kernel_rfl) (fun _ _ _ h => h) (Or.inl ⟨by kernel_rfl, ?_⟩) (hS0) ?_
          · intro W hSw
            go_simp
          try simp only [Act.put, List.setIfInBounds_toArray, List.set_cons_zero, List.set_cons_succ]
          refine wpAnyH_take (i := 3) (v := .agg (digV Y).toArray) rfl (by kernel_rfl) (by kernel_rfl) (by kernel_rfl) (fun _ _ _ h => h) (Or.inl ⟨by kernel_rfl, ?_⟩) (hS0) ?_
          · intro W hSw
            exact exec_load 47 (.tmp 52) (by kernel_rfl) (.pointer (some ⟨g, i * 32, none⟩)) (by kernel_rfl) _ (LB.out W hSw.2)
          try simp only [Act.put, List.setIfInBounds_toArray, List.set_cons_zero, List.set_cons_succ]
          refine wpAnyH_take (i := 4) (v := ?_) rfl (by kernel_rfl) (by kernel_rfl) (by kernel_rfl) (fun _ _ _ h => h) (Or.inl ⟨by kernel_rfl, ?_⟩) (hS0) ?_
          rotate_left
          · intro W hSw
            go_simp
            all_goals with_reducible rfl
          try simp only [Act.put, List.setIfInBounds_toArray, List.set_cons_zero, List.set_cons_succ]
          refine wpAnyH_take (i := 5) (v := .int .i64 (i : Int)) rfl (by kernel_rfl) (by kernel_rfl) (by kernel_rfl) (fun _ _ _ h => h) (Or.inl ⟨by kernel_rfl, ?_⟩) (hS0) ?_
          · intro W hSw
            go_simp
          try simp only [Act.put, List.setIfInBounds_toArray, List.set_cons_zero, List.set_cons_succ]
          refine wpAnyH_take (i := 6) (v := .pointer (some (ad.add (i * 32)))) rfl (by kernel_rfl) (by kernel_rfl) (by kernel_rfl) (fun _ _ _ h => h) (Or.inl ⟨by kernel_rfl, ?_⟩) (hS0) ?_
          · intro W hSw
            go_simp
          try simp only [Act.put, List.setIfInBounds_toArray, List.set_cons_zero, List.set_cons_succ]
          refine wpAnyH_take (i := 7) (v := .agg (digV X).toArray) rfl (by kernel_rfl) (by kernel_rfl) (by kernel_rfl) (fun _ _ _ h => h) (Or.inl ⟨by kernel_rfl, ?_⟩) (hS0) ?_
          · intro W hSw
            exact exec_load 47 (.tmp 56) (by kernel_rfl) (.pointer (some (ad.add (i * 32)))) (by kernel_rfl) _ (LA.out W hSw.1)
          try simp only [Act.put, List.setIfInBounds_toArray, List.set_cons_zero, List.set_cons_succ]
          refine wpAnyH_ready (rs := [8]) (by kernel_rfl) (by simp) ?_
          refine AllReadyH.cons rfl (fun K hK => ?_) AllReadyH.nil
          go_simp
          refine hK.out _ _ (hS0) (fun _ => ?_)
          clear hK K
          try simp only [Act.put, List.setIfInBounds_toArray, List.set_cons_zero, List.set_cons_succ]
          refine wpAnyH_done (by kernel_rfl) ?_ _
          refine NoPanic.normal ?_
          obtain ⟨V, hV⟩ : ∃ V, V = wr.drew := ⟨_, rfl⟩
          have bV : Below w.heap.size w V := by rw [hV]; exact bw.drew
          rw [← hV] at hS0 ⊢
          clear hV
          obtain ⟨_, g', eg, _, hcc⟩ := hS0.2.2 i hip
          cases eg
          obtain ⟨cc, cf⟩ := hcc 0 (by omega)
          have own2 := hS0.2.flip i hip
          rw [Hpi.out] at cc own2
          rw [Hn.out (flip Y) (by rw [Hone.out, if_neg hik'', hE]; rfl)] at own2
          rw [Nat.add_zero] at cc cf
          have hY0 : (digV Y)[0]? = some (.int .u8 ((Y.getD 0 0).toNat : Int)) := by
            simp [digV, List.getD_eq_getElem?_getD, List.getElem?_eq_getElem (show 0 < Y.length by omega)]
          rw [hY0] at cc
          have hxor := xor_one (Y.getD 0 0)
          have hb256 := (Y.getD 0 0).isLt
          have hb256' := (Y.getD 0 0 ^^^ 1).isLt
          generalize Y.getD 0 0 = b at *
          go_upto_region 11 with fail
          refine wp_region_noPanic ?_
          refine wp_region_held_drew (S := fun _ => True) (by kernel_rfl) trivial (fun _ => ?_)
          refine wpAnyH_take (i := 0) (v := ?_) rfl (by kernel_rfl) (by kernel_rfl) (by kernel_rfl) (fun _ _ _ h => h) (Or.inl ⟨by kernel_rfl, ?_⟩) (trivial) ?_
          rotate_left
          · intro W hSw
            go_simp
            all_goals with_reducible rfl
          try simp only [Act.put, List.setIfInBounds_toArray, List.set_cons_zero, List.set_cons_succ]
          refine wpAnyH_take (i := 1) (v := .int .i64 (i : Int)) rfl (by kernel_rfl) (by kernel_rfl) (by kernel_rfl) (fun _ _ _ h => h) (Or.inl ⟨by kernel_rfl, ?_⟩) (trivial) ?_
          · intro W hSw
            go_simp
          try simp only [Act.put, List.setIfInBounds_toArray, List.set_cons_zero, List.set_cons_succ]
          refine wpAnyH_take (i := 2) (v := .pointer (some ⟨g, i * 32, none⟩)) rfl (by kernel_rfl) (by kernel_rfl) (by kernel_rfl) (fun _ _ _ h => h) (Or.inl ⟨by kernel_rfl, ?_⟩) (trivial) ?_
          · intro W hSw
            go_simp
          try simp only [Act.put, List.setIfInBounds_toArray, List.set_cons_zero, List.set_cons_succ]
          refine wpAnyH_take (i := 3) (v := .pointer (some ⟨g, i * 32, none⟩)) rfl (by kernel_rfl) (by kernel_rfl) (by kernel_rfl) (fun _ _ _ h => h) (Or.inl ⟨by kernel_rfl, ?_⟩) (trivial) ?_
          · intro W hSw
            go_simp
          try simp only [Act.put, List.setIfInBounds_toArray, List.set_cons_zero, List.set_cons_succ]
          refine wpAnyH_take (i := 6) (v := .pointer (some ⟨g, i * 32, none⟩)) rfl (by kernel_rfl) (by kernel_rfl) (by kernel_rfl) (fun _ _ _ h => h) (Or.inl ⟨by kernel_rfl, ?_⟩) (trivial) ?_
          · intro W hSw
            go_simp
          try simp only [Act.put, List.setIfInBounds_toArray, List.set_cons_zero, List.set_cons_succ]
          refine wpAnyH_ready (rs := [4]) (by kernel_rfl) (by simp) ?_
          refine AllReadyH.cons rfl (fun K hK => ?_) AllReadyH.nil
          go_simp
          refine hK.out _ _ (trivial) (fun _ => ?_)
          clear hK K
          try simp only [Act.put, List.setIfInBounds_toArray, List.set_cons_zero, List.set_cons_succ]
          refine wpAnyH_take (i := 5) (v := .int .u8 ((b ^^^ 1).toNat : Int)) rfl (by kernel_rfl) (by kernel_rfl) (by kernel_rfl) (fun _ _ _ h => h) (Or.inl ⟨by kernel_rfl, ?_⟩) (trivial) ?_
          · intro W hSw
            go_simp
          try simp only [Act.put, List.setIfInBounds_toArray, List.set_cons_zero, List.set_cons_succ]
          refine wpAnyH_take (i := 7) (v := .pointer (some ⟨g, i * 32, none⟩)) rfl (by kernel_rfl) (by kernel_rfl) (by kernel_rfl) (fun _ _ _ h => h) (Or.inl ⟨by kernel_rfl, ?_⟩) (trivial) ?_
          · intro W hSw
            go_simp
          try simp only [Act.put, List.setIfInBounds_toArray, List.set_cons_zero, List.set_cons_succ]
          refine wpAnyH_ready (rs := [8]) (by kernel_rfl) (by simp) ?_
          refine AllReadyH.cons rfl (fun K hK => ?_) AllReadyH.nil
          go_simp
          refine hK.out _ _ (trivial) (fun _ => ?_)
          clear hK K
          try simp only [Act.put, List.setIfInBounds_toArray, List.set_cons_zero, List.set_cons_succ]
          refine wpAnyH_done (by kernel_rfl) ?_ _
          refine NoPanic.normal ?_
          go_wp2
          go_roundw
          case rel => exact ⟨i + 1, by omega, by go_num, OwnD.below own2 ((Below.refl _ _).drew), (bV.setCell hg _).drew⟩
          case measure => simp [intOf]; omega
        | false =>
          rw [hE] at EQ
          go_upto_region 10 with fail
          refine wp_region_noPanic ?_
          refine wp_region_held_drew (S := fun W => RdD W (some ad) xa ∧ OwnD W w.heap.size (some ⟨g, 0, none⟩) (partB xa xb k i)) (by kernel_rfl) hS0 (fun _ => ?_)
          refine wpAnyH_take (i := 0) (v := ?_) rfl (by kernel_rfl) (by kernel_rfl) (by kernel_rfl) (fun _ _ _ h => h) (Or.inl ⟨by kernel_rfl, ?_⟩) (hS0) ?_
          rotate_left
          · intro W hSw
            go_simp
            all_goals with_reducible rfl
          try simp only [Act.put, List.setIfInBounds_toArray, List.set_cons_zero, List.set_cons_succ]
          refine wpAnyH_take (i := 1) (v := .int .i64 (i : Int)) rfl (by kernel_rfl) (by kernel_rfl) (by kernel_rfl) (fun _ _ _ h => h) (Or.inl ⟨by kernel_rfl, ?_⟩) (hS0) ?_
          · intro W hSw
            go_simp
          try simp only [Act.put, List.setIfInBounds_toArray, List.set_cons_zero, List.set_cons_succ]
          refine wpAnyH_take (i := 2) (v := .pointer (some ⟨g, i * 32, none⟩)) rfl (by kernel_rfl) (by kernel_rfl) (by kernel_rfl) (fun _ _ _ h => h) (Or.inl ⟨by kernel_rfl, ?_⟩) (hS0) ?_
          · intro W hSw
            go_simp
          try simp only [Act.put, List.setIfInBounds_toArray, List.set_cons_zero, List.set_cons_succ]
          refine wpAnyH_take (i := 3) (v := .agg (digV Y).toArray) rfl (by kernel_rfl) (by kernel_rfl) (by kernel_rfl) (fun _ _ _ h => h) (Or.inl ⟨by kernel_rfl, ?_⟩) (hS0) ?_
          · intro W hSw
            exact exec_load 47 (.tmp 52) (by kernel_rfl) (.pointer (some ⟨g, i * 32, none⟩)) (by kernel_rfl) _ (LB.out W hSw.2)
          try simp only [Act.put, List.setIfInBounds_toArray, List.set_cons_zero, List.set_cons_succ]
          refine wpAnyH_take (i := 4) (v := ?_) rfl (by kernel_rfl) (by kernel_rfl) (by kernel_rfl) (fun _ _ _ h => h) (Or.inl ⟨by kernel_rfl, ?_⟩) (hS0) ?_
          rotate_left
          · intro W hSw
            go_simp
            all_goals with_reducible rfl
          try simp only [Act.put, List.setIfInBounds_toArray, List.set_cons_zero, List.set_cons_succ]
          refine wpAnyH_take (i := 5) (v := .int .i64 (i : Int)) rfl (by kernel_rfl) (by kernel_rfl) (by kernel_rfl) (fun _ _ _ h => h) (Or.inl ⟨by kernel_rfl, ?_⟩) (hS0) ?_
          · intro W hSw
            go_simp
          try simp only [Act.put, List.setIfInBounds_toArray, List.set_cons_zero, List.set_cons_succ]
          refine wpAnyH_take (i := 6) (v := .pointer (some (ad.add (i * 32)))) rfl (by kernel_rfl) (by kernel_rfl) (by kernel_rfl) (fun _ _ _ h => h) (Or.inl ⟨by kernel_rfl, ?_⟩) (hS0) ?_
          · intro W hSw
            go_simp
          try simp only [Act.put, List.setIfInBounds_toArray, List.set_cons_zero, List.set_cons_succ]
          refine wpAnyH_take (i := 7) (v := .agg (digV X).toArray) rfl (by kernel_rfl) (by kernel_rfl) (by kernel_rfl) (fun _ _ _ h => h) (Or.inl ⟨by kernel_rfl, ?_⟩) (hS0) ?_
          · intro W hSw
            exact exec_load 47 (.tmp 56) (by kernel_rfl) (.pointer (some (ad.add (i * 32)))) (by kernel_rfl) _ (LA.out W hSw.1)
          try simp only [Act.put, List.setIfInBounds_toArray, List.set_cons_zero, List.set_cons_succ]
          refine wpAnyH_ready (rs := [8]) (by kernel_rfl) (by simp) ?_
          refine AllReadyH.cons rfl (fun K hK => ?_) AllReadyH.nil
          go_simp
          refine hK.out _ _ (hS0) (fun _ => ?_)
          clear hK K
          try simp only [Act.put, List.setIfInBounds_toArray, List.set_cons_zero, List.set_cons_succ]
          refine wpAnyH_done (by kernel_rfl) ?_ _
          refine NoPanic.normal ?_
          have own2 := hS0.2
          rw [Hh.out (by rw [Hone.out, if_neg hik'', hE]; rfl)] at own2
          go_wp2
          go_roundw
          case rel => exact ⟨i + 1, by omega, by go_num, own2, bw.drew⟩
          case measure => simp [intOf]; omega
    · obtain rfl : i = m := by omega
      have hor : i = xa.length ∨ (i < xa.length ∧ i = xb.length) := by have := Hmm.out; omega
      have rdB := own.rd
      rcases hor with he | ⟨he1, he⟩
      · have c1 : ¬ ((i : Int) < (xa.length : Int)) := by omega
        have He := Lib.hid he
        clear he
        go_wp2_with (go_at_call 23; refine (HF.out _ rw' rdB).mono ?_; rintro e w3 ⟨rfl, b3⟩)
        go_ret
        exact ⟨by simp, bw.trans (b3.mono hsw)⟩
      · have c1 : (i : Int) < (xa.length : Int) := by omega
        have c2 : ¬ ((i : Int) < (xb.length : Int)) := by omega
        have He := Lib.hid he
        clear he
        go_wp2_with (go_at_call 23; refine (HF.out _ rw' rdB).mono ?_; rintro e w3 ⟨rfl, b3⟩)
        go_ret
        exact ⟨by simp, bw.trans (b3.mono hsw)⟩
end Go.Proofs.Ytinkcffkhbaleaa
