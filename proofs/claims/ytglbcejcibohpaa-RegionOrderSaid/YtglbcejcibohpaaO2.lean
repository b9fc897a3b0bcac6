import Derived.Test.YtglbcejcibohpaaX
import Derived.Deep.Cut
import Derived.Deep.CutRange
/-! RegionOrder: the law. -/
namespace Go.Proofs.Ytglbcejcibohpaa
open Go.RowKit
set_option linter.unusedVariables false
set_option linter.unusedSimpArgs false
def meets (x y : Ext) : Prop := x.1 < y.1 + y.2 ∧ y.1 < x.1 + x.2
/-- What is given, and what is left to give. -/
structure Inv (b : Int) (l row L : List Ext) : Prop where
  free : freeE b row
  lies : ∀ e ∈ L, liesE b e ∧ ¬ hitsE row e
  apart : L.Pairwise fun x y => ¬ meets x y
  mem : ∀ k, memE l k ↔ memE row k ∨ memE L k
theorem free_apart {b : Int} : ∀ {l : List Ext} {p : Int}, freeF b p l → l.Pairwise fun x y => ¬ meets x y
  | [], _, _ => List.Pairwise.nil
  | x :: l, p, h => List.Pairwise.cons (fun y hy hh => by
      have := (freeF_lies h.2 y hy).2
      unfold meets at hh; omega) (free_apart h.2)
theorem Inv.start {b : Int} {l : List Ext} (h : freeE b l) : Inv b l [] l :=
  ⟨trivial, fun e he => ⟨(freeF_lies h e he).1, fun ⟨x, hx, _⟩ => by simp at hx⟩, free_apart h, fun k => by simp [memE_nil]⟩
theorem Inv.done {b : Int} {l row : List Ext} (hb : 0 ≤ b) (h : freeE b l) (hi : Inv b l row []) : row = l :=
  row_unique b hb row l hi.free h fun k _ _ => by rw [hi.mem]; simp [memE_nil]
theorem Inv.step {b : Int} {l row L : List Ext} (hi : Inv b l row L) (k : Nat) (hk : k < L.length) : Inv b l (giveF L[k] false row) (L.take k ++ L.drop (k + 1)) := by
  obtain ⟨h1, h2, h3, h4⟩ := hi
  have hL : L = L.take k ++ L[k] :: L.drop (k + 1) := by rw [← List.drop_eq_getElem_cons hk, List.take_append_drop]
  obtain ⟨e, he⟩ : ∃ e, L[k] = e := ⟨_, rfl⟩
  have hem := List.getElem_mem hk
  rw [he] at hL hem ⊢
  obtain ⟨P, hP⟩ : ∃ P, L.take k = P := ⟨_, rfl⟩
  obtain ⟨S, hS⟩ : ∃ S, L.drop (k + 1) = S := ⟨_, rfl⟩
  rw [hP, hS] at hL ⊢
  obtain ⟨e1, e2⟩ := h2 e hem
  obtain ⟨f1, f2⟩ := give_free' h1 e1 e2
  rw [hL, List.pairwise_append] at h3
  obtain ⟨a1, a2, a3⟩ := h3
  rw [List.pairwise_cons] at a2
  have hne : ∀ x ∈ P ++ S, x ∈ L ∧ ¬ meets x e := by
    intro x hx
    rcases List.mem_append.1 hx with hx | hx
    · exact ⟨by rw [hL]; simp [hx], a3 x hx e (by simp)⟩
    · refine ⟨by rw [hL]; simp [hx], fun hh => a2.1 x hx ⟨hh.2, hh.1⟩⟩
  refine ⟨f1, fun x hx => ?_, ?_, fun q => ?_⟩
  · obtain ⟨x1, x2⟩ := hne x hx
    obtain ⟨y1, y2⟩ := h2 x x1
    refine ⟨y1, fun hh => ?_⟩
    obtain ⟨q, q1, q2⟩ := (hits_iff f1 y1.2.1).1 hh
    rcases (f2 q).1 q2 with q3 | q3
    · exact y2 ((hits_iff h1 y1.2.1).2 ⟨q, q1, q3⟩)
    · unfold inE at q1 q3; exact x2 ⟨by omega, by omega⟩
  · rw [List.pairwise_append]
    exact ⟨a1, a2.2, fun x hx y hy => a3 x hx y (by simp [hy])⟩
  · rw [h4, f2, hL, memE_app, memE_app, memE_cons]
    constructor
    · rintro (h | h | h | h)
      · exact Or.inl (Or.inl h)
      · exact Or.inr (Or.inl h)
      · exact Or.inl (Or.inr h)
      · exact Or.inr (Or.inr h)
    · rintro ((h | h) | h | h)
      · exact Or.inl h
      · exact Or.inr (Or.inr (Or.inl h))
      · exact Or.inr (Or.inl h)
      · exact Or.inr (Or.inr (Or.inr h))
theorem exts_get : ∀ (l : List Ext) (j : Nat) (u : Value), (extsV l)[j]? = some u → ∃ (h : j / 2 < l.length), u = if j % 2 = 0 then .int .i64 (l[j / 2]).1 else .int .i64 (l[j / 2]).2
  | [], j, u, h => by simp [extsV] at h
  | t :: l, 0, u, h => ⟨by simp, by have : extsV (t :: l) = .int .i64 t.1 :: .int .i64 t.2 :: extsV l := rfl
                                    rw [this] at h; simp at h; simp [h]⟩
  | t :: l, 1, u, h => ⟨by simp, by have : extsV (t :: l) = .int .i64 t.1 :: .int .i64 t.2 :: extsV l := rfl
                                    rw [this] at h; simp at h; simp [h]⟩
  | t :: l, j + 2, u, h => by
    have e : extsV (t :: l) = .int .i64 t.1 :: .int .i64 t.2 :: extsV l := rfl
    rw [e] at h
    obtain ⟨h1, h2⟩ := exts_get l j u (by simpa using h)
    have h3 : (j + 2) / 2 = j / 2 + 1 := by omega
    have h4 : (j + 2) % 2 = j % 2 := by omega
    refine ⟨by simp only [List.length_cons]; omega, ?_⟩
    rw [h2, h4]
    simp only [h3, List.getElem_cons_succ]
theorem RdE.flat {w : World} {ad : Addr} {l : List Ext} (h : RdE w (some ad) l) : ∀ j u, (extsV l)[j]? = some u → w.cell? (ad.add j) = some u := by
  intro j u hj
  obtain ⟨h1, h2⟩ := exts_get l j u hj
  obtain ⟨ad', e, c0, c1, _⟩ := h.2 (j / 2) h1
  obtain rfl := Option.some.inj e
  rcases Nat.mod_two_eq_zero_or_one j with hm | hm
  · rw [if_pos hm] at h2
    rw [h2, ← c0, show j / 2 * 2 = j by omega]
  · rw [if_neg (by omega)] at h2
    rw [h2]
    have e2 : ad.add j = ⟨(ad.add (j / 2 * 2)).block, (ad.add (j / 2 * 2)).off + 1, none⟩ := by
      have hj0 : j ≠ 0 := by omega
      unfold Addr.add
      rw [if_neg hj0]
      split
      · simp only [Addr.mk.injEq]; exact ⟨trivial, by omega, trivial⟩
      · simp only [Addr.mk.injEq]; exact ⟨trivial, by omega, trivial⟩
    rw [e2]
    exact c1
theorem own_part {w : World} {B g n c : Nat} {e : TypeId} {L : List Ext} {j : Nat} (h : w.ownsRow B e 2 (.slice (some ⟨g, 0, none⟩) n c) n (extsV L)) {q : Nat} {u : Value} (hq : (extsV (L.take j))[q]? = some u) : w.cell? ((⟨g, 0, none⟩ : Addr).add q) = some u := by
  refine h.cells (g := g) rfl q u ?_
  rw [← List.take_append_drop j L, ← extsV_app, List.getElem?_append_left (List.getElem?_eq_some_iff.1 hq).1]
  exact hq
theorem own_rest {w : World} {B g c : Nat} {e : TypeId} {L : List Ext} {j : Nat} {PT : Addr} (h : w.ownsRow B e 2 (.slice (some ⟨g, 0, none⟩) L.length c) L.length (extsV L)) (hp : (if c = j + 1 then some (⟨g, 0, none⟩ : Addr) else some ⟨g, (j + 1) * 2, none⟩) = some PT) : ∀ q u, (extsV (L.drop (j + 1)))[q]? = some u → w.cell? (PT.add q) = some u := by
  intro q u hq
  have hlt := (List.getElem?_eq_some_iff.1 hq).1
  rw [extsV_len, List.length_drop] at hlt
  have hc := own_cap h
  rw [if_neg (by omega)] at hp
  obtain rfl := Option.some.inj hp
  have hx : (extsV L)[(j + 1) * 2 + q]? = some u := by
    rw [← List.take_append_drop (j + 1) L, ← extsV_app, List.getElem?_append_right (by rw [extsV_len, List.length_take]; omega), extsV_len, List.length_take]
    rw [show (j + 1) * 2 + q - min (j + 1) L.length * 2 = q by omega]
    exact hq
  have h2 := h.cells (g := g) rfl _ _ hx
  rw [add_zero_off] at h2
  have e3 : (⟨g, (j + 1) * 2, none⟩ : Addr).add q = ⟨g, (j + 1) * 2 + q, none⟩ := by
    unfold Addr.add
    split
    · rename_i h0; subst h0; rfl
    · rfl
  rw [e3]
  exact h2
theorem wpList_append_rd {P : Program} (w : World) {ops : Array Oper} {rest : List Oper} {o : Oper} {a : Act} {Q : Exit → Act → World → Prop} (hgd : o.guard = none) (s x : Operand) (t : TypeId)
    (ho : o.op = .call { callee := .builtin .append, args := #[s, x], argTypes := #[t, t] })
    (base : Nat) (e : TypeId) (i : TypeInfo) (z : Value) (bytes : Nat) (ht : P.underlying t = some (.slice e)) (hi : P.info? e = some i) (hz : i.zero = some z)
    (hsize : i.size = 2) (hby : i.bytes = bytes) (hzs : z.cells.size = 2)
    (v : Value) (n : Nat) (xs : List Value) (hs : a.eval s = v) (hown : w.ownsRow base e 2 v n xs)
    (A : Option Addr) (l : List Ext) (c : Nat) (hx : a.eval x = .slice A l.length c) (hr : RdE w A l) (nl : A = none → c = 0)
    (h63 : n + l.length ≤ maxLen) (hbytes : (n + l.length) * bytes ≤ 140737488355328) (hbase : base ≤ w.heap.size)
    (h : ∀ v' w', w'.ownsRow base e 2 v' (n + l.length) (xs ++ extsV l) → w.grownBy w' v.ownBlock → wpList P ops Q rest (a.put o.dst v') w') : wpList P ops Q (o :: rest) a w := by
  cases A with
  | none =>
    have hn : l = [] := by
      cases l with
      | nil => rfl
      | cons t l => obtain ⟨ad, e, _⟩ := hr.2 0 (by simp); cases e
    subst hn
    rw [nl rfl] at hx
    refine wpList_append_own_none hgd s x t ho base e i 2 ht hi v n xs hs hown hx (h v w ?_ ⟨rfl, rfl, rfl, Nat.le_refl _, fun _ _ _ => rfl⟩)
    simpa [extsV] using hown
  | some ad => exact wpList_append_own w hgd s x t ho base e i z 2 bytes ht hi hz hsize hby hzs (by decide) v n xs hs hown ad l.length c (extsV l) hx (extsV_len l) hr.flat (oneExts l) h63 hbytes hbase (fun v' w' h2 h3 _ => h v' w' h2 h3)
set_option maxRecDepth 100000 in
set_option maxHeartbeats 40000000 in
theorem regionOrder_any (b : Int) (l0 : List Ext) (A : Option Addr) (cap : Nat) (ps : List (BitVec 8)) (B : Option Addr) (pc : Nat) (w : World) (hb : I64 b) (hr0 : RdE w A l0) (hl0 : l0.length ≤ cap) (nl : A = none → cap = 0) (hrp : RdB w B ps) (hlp : ps.length ≤ pc) (hps : ps.length * 1 ≤ 140737488351232) :
    Calls Try.prog 4 #[.int .i64 b, .slice A l0.length cap, .slice B ps.length pc] w fun e w' => e = .returned (.bool true) ∧ Below w.heap.size w w' := by
  have FW := Lib.hid (fun w' => few_any l0 A cap w' hl0 hr0.1)
  have hr := hr0.take 5000
  have hl : (l0.take 5000).length ≤ cap := by rw [List.length_take]; omega
  obtain ⟨l, hL⟩ : ∃ l, l0.take 5000 = l := ⟨_, rfl⟩
  rw [hL] at FW hr hl
  have hm := hr.1
  have HR := Lib.hid hr
  have AW := Lib.hid (awake_any w)
  have hmp := hrp.1
  have HP := Lib.hid hrp
  clear hL hr hr0 hl0 hrp
  by_cases hlong : 60 < l.length
  · go_enter Try.func4, Try.ntmps4
    go_wp2_with (first | (go_at_call 14; refine AW.out.mono ?_; rintro e w1 ⟨rfl, b01⟩) | (go_at_call 10; refine (FW.out _).mono ?_; rintro e w' ⟨rfl, rfl⟩) | fail)
    go_ret
    exact ⟨rfl, b01⟩
  have CX := Lib.hid (fun w' (h : Below w.heap.size w w') => rcheck_any b l A cap w' hb (HR.out.below h) hl)
  by_cases hc : checkE b l = 0
  · have hb' := (check_zero hc).1
    have hf := (check_zero hc).2
    have b1 := hb'.1
    have b2 := hb'.2
    rw [hc] at CX
    have HF := Lib.hid hf
    have HB := Lib.hid hb'
    obtain ⟨i0, hi, hz0, hz1, hz2⟩ := info_parts info25
    have HNL := Lib.hid nl
    clear hc hf nl
    go_enter Try.func4, Try.ntmps4
    go_upto_region 7 with (first | (go_at_call 14; refine AW.out.mono ?_; rintro e w1 ⟨rfl, b01⟩) | (go_at_call 10; refine (FW.out _).mono ?_; rintro e w' ⟨rfl, rfl⟩) | (go_at_call 15; refine (CX.out _ b01).mono ?_; rintro e w2 ⟨rfl, b12⟩; have b02 : Below w.heap.size w w2 := b01.trans (b12.mono b01.size); have hs2 := b02.size; clear b12) | (at_builtin; go_loud (refine wpList_append_rd _ rfl (.tmp 26) (.tmp 27) 22 rfl w2.heap.size 25 i0 (.agg #[.int .i64 0, .int .i64 0]) 16 Try.underlying22 hi hz0 hz1 hz2 rfl (.slice (some ⟨w2.heap.size, 0, none⟩) 0 0) 0 [] rfl (own_empty w2 25 2) A l cap rfl ((HR.out.below b02).below ((Below.refl _ _).alloc (Nat.le_refl _) _)) HNL.out (by unfold maxLen; omega) (by omega) (by simp) ?_; intro v3 w3 hown' hgrow; have b03 : Below w.heap.size w w3 := (b02.alloc hs2 _).grown hgrow (by simp; omega) (fun k hk => by have := own_base' (own_empty w2 25 2) k hk; omega); have HO3 := Lib.hid (own_up hown' hs2); clear hown' hgrow)) | fail)
    have ho3 := HO3.out
    rw [Nat.zero_add, List.nil_append] at ho3
    have HL3 := Lib.hid ho3
    clear ho3 HO3 AW FW CX
    go_wp2
    go_loopw [7, 8, 9] (fun lv rv iv wr => ∃ (L row : List Ext) (i : Nat), i + L.length = l.length ∧ row.length ≤ 2049 ∧ iv = .int .i64 i ∧ Inv b l row L ∧ wr.ownsRow w.heap.size 25 2 lv L.length (extsV L) ∧ wr.ownsRow w.heap.size 25 2 rv row.length (extsV row) ∧ Below w.heap.size w wr) (fun _ _ iv _ => l.length - (intOf iv).toNat)
    case atStart => exact ⟨l, [], 0, by omega, by simp, rfl, Inv.start HF.out, HL3.out, World.ownsRow_nil _ _ _ _, b03⟩
    case round =>
      obtain ⟨L, row, i, hiL, hrl, rfl, hinv, hL, hrow, hbel⟩ := hrel
      have hsr := hbel.size
      have HO := Lib.hid hL
      have HW := Lib.hid hrow
      have HI := Lib.hid hinv
      have hAr := allI_free hinv.free b2
      by_cases hlt : 0 < L.length
      · obtain ⟨g, cv, rfl⟩ := Joins.ownsRow_form hL hlt
        have hcv := own_cap hL
        have hgb := own_base' hL g rfl
        obtain ⟨Ar, cr, rfl, hlr, hrr⟩ := RdE.own hrow hAr
        have HRR := Lib.hid hrr
        clear hL hrow hinv hrr hAr
        go_upto_if 37 with (fail)
        go_cut [10] from 38 to 45 (fun kv wx => ∃ j : Nat, j < L.length ∧ kv = .int .i64 j ∧ wx = wr)
        case first =>
          by_cases hip : i < ps.length
          · obtain ⟨ad, rfl, hcp⟩ := RdB.at' (RdR.below (R' := EqB) HP.out hbel (fun _ _ h => h)) i hip
            obtain ⟨x, hx⟩ : ∃ x : Nat, ps[i].toNat = x := ⟨_, rfl⟩
            have hx2 : x < 256 := by rw [← hx]; exact ps[i].isLt
            rw [hx] at hcp
            have hmod : (x : Int).tmod (L.length : Int) = ((x % L.length : Nat) : Int) := by rw [Int.tmod_eq_emod_of_nonneg (by omega)]; exact (Int.natCast_emod _ _).symm
            have hmlt : x % L.length < L.length := Nat.mod_lt _ hlt
            have hwr : IntKind.i64.wrap ((x % L.length : Nat) : Int) = ((x % L.length : Nat) : Int) := IntWalk.i64_in _ (by omega)
            obtain ⟨J, hJ⟩ : ∃ J, x % L.length = J := ⟨_, rfl⟩
            rw [hJ] at hmod hmlt hwr
            clear hx hJ
            go_wp2
            go_meet
            case rel => exact ⟨J, hmlt, rfl, rfl⟩
          · go_wp2
            go_meet
            case rel => exact ⟨0, hlt, rfl, rfl⟩
        case rest =>
          obtain ⟨j, hj, rfl, rfl⟩ := hcut
          have hAL : AllI L := fun e he => by
            have h := (HI.out.lies e he).1
            unfold liesE at h
            exact ⟨⟨by omega, by omega⟩, ⟨by omega, by omega⟩⟩
          obtain ⟨A4, c4, e4, hl4, hr4⟩ := RdE.own HO.out hAL
          simp only [Value.slice.injEq] at e4
          obtain ⟨rfl, _, rfl⟩ := e4
          obtain ⟨ad, e5, c0, c1, i1, i2⟩ := hr4.2 j hj
          obtain rfl := Option.some.inj e5
          rw [add_zero_off] at c0 c1
          have hin := HI.out.step j hj
          obtain ⟨hlie, hnh⟩ := HI.out.lies _ (List.getElem_mem hj)
          have hgv := give_ok ⟨b1, b2⟩ HI.out.free hlie hnh
          obtain ⟨⟨x, y⟩, ht⟩ : ∃ t, L[j] = t := ⟨_, rfl⟩
          rw [ht] at c0 c1 i1 i2 hin hgv
          simp only at c0 c1 i1 i2
          have hf2 := hin.free
          have hsm := free_small hf2 b2
          have GX := give_any b row Ar cr x y wc hb i1 i2 HRR.out hlr
          rw [hgv] at GX
          obtain ⟨row', hR⟩ : ∃ r, giveF (x, y) false row = r := ⟨_, rfl⟩
          rw [hR] at GX hin hf2 hsm
          simp only at GX
          have GX := Lib.hid GX
          have HIN := Lib.hid hin
          have hLn : (L.take j ++ L.drop (j + 1)).length + 1 = L.length := by simp; omega
          clear hlie hnh hgv ht hR hf2 hAL hl4 hr4 i1 i2 hin e5
          go_upto_region 18 with (first | (go_at_call 16; refine GX.out.mono ?_; rintro e w4 ⟨v5, rfl, hv5, bq⟩; have HV := Lib.hid (own_up hv5 hsr); have HO4 := Lib.hid (own_below' HO.out bq); have b04 : Below w.heap.size w w4 := hbel.trans (bq.mono hsr); clear hv5 bq) | fail)
          clear GX c0 c1 HRR HW HO
          have hs4 := b04.size
          have s1 : IntKind.i64.wrap ((j : Int) + 1) = (j : Int) + 1 := IntWalk.i64_in _ (by omega)
          have s2 : ((j : Int) + 1).toNat = j + 1 := by omega
          have hjc : j ≤ cv := by omega
          have hj2 : 0 ≤ (j : Int) + 1 ∧ (j : Int) + 1 ≤ (L.length : Int) := by omega
          obtain ⟨PT, hPT⟩ : ∃ PT : Addr, (if cv = j + 1 then some (⟨g, 0, none⟩ : Addr) else some ⟨g, (j + 1) * 2, none⟩) = some PT := by split <;> exact ⟨_, rfl⟩
          have HPT := Lib.hid hPT
          refine wp_region_noPanic ?_
          refine wp_region_held_drew (S := fun _ => True) (by kernel_rfl) trivial (fun _ => ?_)
          refine wpAnyH_take (i := 1) (oi := { dst := some 60, op := Go.Op.move (Go.Operand.tmp 7), type := 22, pos := "law.go:98", after := #[], guard := none }) (v := .slice (some ⟨g, 0, none⟩) L.length cv) rfl (by kernel_rfl) (by kernel_rfl) (by kernel_rfl) (fun _ _ _ h => h) (Or.inl ⟨by kernel_rfl, ?_⟩) (trivial) ?_
          · intro W hSw
            go_simp
          try simp only [Act.put, List.setIfInBounds_toArray, List.set_cons_zero, List.set_cons_succ]

          refine wpAnyH_take (i := 2) (oi := { dst := some 61, op := Go.Op.move (Go.Operand.tmp 10), type := 3, pos := "law.go:98", after := #[], guard := none }) (v := .int .i64 (j : Int)) rfl (by kernel_rfl) (by kernel_rfl) (by kernel_rfl) (fun _ _ _ h => h) (Or.inl ⟨by kernel_rfl, ?_⟩) (trivial) ?_
          · intro W hSw
            go_simp
          try simp only [Act.put, List.setIfInBounds_toArray, List.set_cons_zero, List.set_cons_succ]

          refine wpAnyH_take (i := 3) (oi := { dst := some 62, op := Go.Op.slice 22 (Go.Operand.tmp 60) none (some (Go.Operand.tmp 61)) none, type := 22, pos := "law.go:98", after := #[{ on := 1, ground := Go.Ground.data }, { on := 2, ground := Go.Ground.data }], guard := none }) (v := .slice (some ⟨g, 0, none⟩) j cv) rfl (by kernel_rfl) (by kernel_rfl) (by kernel_rfl) (fun _ _ _ h => h) (Or.inl ⟨by kernel_rfl, ?_⟩) (trivial) ?_
          · intro W hSw
            go_simp
          try simp only [Act.put, List.setIfInBounds_toArray, List.set_cons_zero, List.set_cons_succ]

          refine wpAnyH_take (i := 5) (oi := { dst := some 64, op := Go.Op.move (Go.Operand.tmp 7), type := 22, pos := "law.go:98", after := #[], guard := none }) (v := .slice (some ⟨g, 0, none⟩) L.length cv) rfl (by kernel_rfl) (by kernel_rfl) (by kernel_rfl) (fun _ _ _ h => h) (Or.inl ⟨by kernel_rfl, ?_⟩) (trivial) ?_
          · intro W hSw
            go_simp
          try simp only [Act.put, List.setIfInBounds_toArray, List.set_cons_zero, List.set_cons_succ]

          refine wpAnyH_take (i := 6) (oi := { dst := some 65, op := Go.Op.move (Go.Operand.tmp 10), type := 3, pos := "law.go:98", after := #[], guard := none }) (v := .int .i64 (j : Int)) rfl (by kernel_rfl) (by kernel_rfl) (by kernel_rfl) (fun _ _ _ h => h) (Or.inl ⟨by kernel_rfl, ?_⟩) (trivial) ?_
          · intro W hSw
            go_simp
          try simp only [Act.put, List.setIfInBounds_toArray, List.set_cons_zero, List.set_cons_succ]

          refine wpAnyH_take (i := 7) (oi := { dst := some 66, op := Go.Op.binOp Go.BinOp.add 3 (Go.Operand.tmp 65) (Go.Operand.const (Go.Value.int Go.IntKind.i64 1)) 3, type := 3, pos := "law.go:98", after := #[{ on := 6, ground := Go.Ground.data }], guard := none }) (v := .int .i64 ((j : Int) + 1)) rfl (by kernel_rfl) (by kernel_rfl) (by kernel_rfl) (fun _ _ _ h => h) (Or.inl ⟨by kernel_rfl, ?_⟩) (trivial) ?_
          · intro W hSw
            go_simp
          try simp only [Act.put, List.setIfInBounds_toArray, List.set_cons_zero, List.set_cons_succ]

          refine wpAnyH_take (i := 8) (oi := { dst := some 67, op := Go.Op.slice 22 (Go.Operand.tmp 64) (some (Go.Operand.tmp 66)) none none, type := 22, pos := "law.go:98", after := #[{ on := 5, ground := Go.Ground.data }, { on := 7, ground := Go.Ground.data }], guard := none }) (v := .slice (some PT) (L.length - (j + 1)) (cv - (j + 1))) rfl (by kernel_rfl) (by kernel_rfl) (by kernel_rfl) (fun _ _ _ h => h) (Or.inl ⟨by kernel_rfl, ?_⟩) (trivial) ?_
          · intro W hSw
            go_simp
          try simp only [Act.put, List.setIfInBounds_toArray, List.set_cons_zero, List.set_cons_succ]

          clear s1 s2 hjc hj2 hPT
          obtain ⟨V, hV⟩ : ∃ V, w4.drew = V := ⟨_, rfl⟩
          have bV : Below w4.heap.size w4 V := hV ▸ (Below.refl _ _).drew
          have zV2 : w4.heap.size ≤ V.heap.size := bV.size
          have HOV := Lib.hid (own_below' HO4.out bV)
          have HVV := Lib.hid (own_below' HV.out bV)
          have bwV : Below w.heap.size w V := b04.trans (bV.mono hs4)
          have hsV := bwV.size
          rw [hV]
          clear hV bV b04
          refine wpAnyH_ready (rs := [0]) (by kernel_rfl) (by simp) ?_
          refine AllReadyH.cons rfl (fun K hK => ?_) AllReadyH.nil
          go_simp
          refine hK.out _ _ trivial (fun _ => ?_)
          clear hK K
          try simp only [Act.put, List.setIfInBounds_toArray, List.set_cons_zero, List.set_cons_succ]
          refine wpAnyH_ready (rs := [4]) (by kernel_rfl) (by simp) ?_
          refine AllReadyH.cons rfl (fun K hK => ?_) AllReadyH.nil
          refine Eq.mpr (if_pos ?hc) ?_
          case hc => kernel_rfl
          refine wp_append_own _ (.tmp 59) (.tmp 62) 22 rfl V.heap.size 25 i0 (.agg #[.int .i64 0, .int .i64 0]) 2 16 Try.underlying22 hi hz0 hz1 hz2 rfl (by decide) (.slice (some ⟨V.heap.size, 0, none⟩) 0 0) 0 [] rfl (own_empty V 25 2) ⟨g, 0, none⟩ j cv (extsV (L.take j)) rfl (by rw [extsV_len, List.length_take]; omega) (fun q u hq => keepA (own_part HOV.out hq)) (oneExts _) (by unfold maxLen; omega) (by omega) (by simp) ?_
          intro u5 w5 own5 grow5 _
          have bV5 : Below V.heap.size V w5 := ((Below.refl _ _).alloc (Nat.le_refl _) _).grown grow5 (by simp) (own_base' (own_empty V 25 2))
          have hs5 := bV5.size
          rw [Nat.zero_add, List.nil_append] at own5
          have HO5 := Lib.hid own5
          have HOL := Lib.hid (own_below' HOV.out bV5)
          clear own5 grow5
          refine hK.out _ _ trivial (fun _ => ?_)
          clear hK K
          try simp only [Act.put, List.setIfInBounds_toArray, List.set_cons_zero, List.set_cons_succ]
          refine wpAnyH_ready (rs := [9]) (by kernel_rfl) (by simp) ?_
          refine AllReadyH.cons rfl (fun K hK => ?_) AllReadyH.nil
          refine Eq.mpr (if_pos ?hc) ?_
          case hc => kernel_rfl
          refine wp_append_own _ (.tmp 63) (.tmp 67) 22 rfl V.heap.size 25 i0 (.agg #[.int .i64 0, .int .i64 0]) 2 16 Try.underlying22 hi hz0 hz1 hz2 rfl (by decide) u5 j _ rfl HO5.out PT (L.length - (j + 1)) (cv - (j + 1)) (extsV (L.drop (j + 1))) rfl (by rw [extsV_len, List.length_drop]) (own_rest HOL.out HPT.out) (oneExts _) (by unfold maxLen; omega) (by omega) (by omega) ?_
          intro u6' w6 own6 grow6 _
          have bV6 : Below V.heap.size V w6 := bV5.grown grow6 (by omega) (own_base' HO5.out)
          rw [extsV_app] at own6
          have HO6 := Lib.hid (own_up own6 hsV)
          have HV6 := Lib.hid (own_below' HVV.out bV6)
          have b06 : Below w.heap.size w w6 := bwV.trans (bV6.mono hsV)
          clear own6 grow6 HO5 HOL HOV HVV bV5 bV6
          refine hK.out _ _ trivial (fun _ => ?_)
          clear hK K
          try simp only [Act.put, List.setIfInBounds_toArray, List.set_cons_zero, List.set_cons_succ]
          refine wpAnyH_ready (rs := [10]) (by kernel_rfl) (by simp) ?_
          refine AllReadyH.cons rfl (fun K hK => ?_) AllReadyH.nil
          go_simp
          refine hK.out _ _ trivial (fun _ => ?_)
          clear hK K
          try simp only [Act.put, List.setIfInBounds_toArray, List.set_cons_zero, List.set_cons_succ]
          refine wpAnyH_done (by kernel_rfl) ?_ _
          refine NoPanic.normal ?_
          go_wp2
          go_roundw
          case rel =>
            have e : j + (L.length - (j + 1)) = (L.take j ++ L.drop (j + 1)).length := by omega
            have ho := HO6.out
            rw [e] at ho
            exact ⟨L.take j ++ L.drop (j + 1), row', i + 1, by omega, hsm, by go_num, HIN.out, ho, HV6.out, b06⟩
          case measure => simp [intOf]; omega
      · obtain rfl : L = [] := List.eq_nil_of_length_eq_zero (by omega)
        obtain ⟨A4, c4, rfl, _⟩ := own_slice hL
        obtain rfl := hinv.done b1 HF.out
        obtain ⟨Ar, cr, rfl, hlr, hrr⟩ := RdE.own hrow hAr
        have SA := Lib.hid (same_yes row Ar A cr cap wr hrr (HR.out.below hbel) hlr hl)
        clear hL hrow hinv hrr hAr HO HW
        go_wp2_with (first | (go_at_call 13; refine SA.out.mono ?_; rintro e w5 ⟨rfl, bq⟩) | fail)
        go_ret
        exact ⟨rfl, hbel.trans (bq.mono hsr)⟩
  · obtain ⟨c, hcc⟩ : ∃ c, checkE b l = c := ⟨_, rfl⟩
    have h3 := check_range b l
    rw [hcc] at CX hc h3
    have hd : decide (c = 0) = false := decide_eq_false hc
    have hd2 : (c != 0) = true := by simpa using hc
    clear hcc
    go_enter Try.func4, Try.ntmps4
    go_wp2_with (first | (go_at_call 14; refine AW.out.mono ?_; rintro e w1 ⟨rfl, b01⟩) | (go_at_call 10; refine (FW.out _).mono ?_; rintro e w' ⟨rfl, rfl⟩) | (go_at_call 15; refine (CX.out _ b01).mono ?_; rintro e w2 ⟨rfl, b12⟩; have b02 : Below w.heap.size w w2 := b01.trans (b12.mono b01.size); have hs2 := b02.size; clear b12) | fail)
    go_ret
    exact ⟨rfl, b02⟩
end Go.Proofs.Ytglbcejcibohpaa
