import Derived.Test.YtjaakhjfpigdfaaY
/-! cut of rows; the document's Sum and Of. -/
namespace Go.Proofs.Ytjaakhjfpigdfaa
open Go.RowKit
set_option linter.unusedVariables false
set_option linter.unusedSimpArgs false
theorem info35 : (Try.prog.info? 35).map (fun i => (i.zero, i.size, i.bytes)) = some (some (.slice none 0 0), 1, 24) := by kernel_rfl
def cutL (ps : List By) : List By := (ps.take 20).map (·.take 600)
/-- A row of one's own of slices of bytes, each reading, in the world w0, as it should. -/
def OwnP (w0 w : World) (base : Nat) (v : Value) (ps : List By) : Prop := ∃ vs, w.ownsRow base 35 1 v ps.length vs ∧ ∀ j, j < ps.length → ∃ u, vs[j]? = some u ∧ EqN w0 (ps.getD j []) u
theorem OwnP.nil (w0 w : World) (base : Nat) : OwnP w0 w base (.slice none 0 0) [] := ⟨[], ⟨rfl, .inl ⟨rfl, rfl⟩⟩, fun j hj => by simp at hj⟩
theorem OwnP.below {w0 w w' : World} {base : Nat} {v : Value} {ps : List By} (h : OwnP w0 w base v ps) (hb : Below w.heap.size w w') : OwnP w0 w' base v ps := by
  obtain ⟨vs, ho, he⟩ := h
  exact ⟨vs, own_below ho hb, he⟩
theorem OwnP.rd {w0 w : World} {base : Nat} {v : Value} {ps : List By} (h : OwnP w0 w base v ps) (hb : Below w0.heap.size w0 w) : ∃ A c, v = .slice A ps.length c ∧ ps.length ≤ c ∧ RdN w A ps := by
  obtain ⟨vs, ho, he⟩ := h
  rcases Joins.ownsRow_forms ho with ⟨rfl, h0⟩ | ⟨g, cap, rfl⟩
  · obtain rfl : ps = [] := List.eq_nil_of_length_eq_zero (by omega)
    exact ⟨none, 0, rfl, by simp, by simp, fun j hj => by simp at hj⟩
  · have hcap := own_cap ho
    have hm : ps.length ≤ 9223372036854775807 := by
      rcases ho.2 with ⟨h1, _⟩ | ⟨g', cap', cur, he', _, _, h1, h2, _⟩
      · cases h1
      · simp only [Value.slice.injEq] at he'; unfold maxLen at h2; omega
    refine ⟨_, cap, rfl, hcap, hm, fun j hj => ?_⟩
    obtain ⟨u, h1, h2⟩ := he j hj
    refine ⟨_, u, rfl, ho.cells (g := g) rfl j _ h1, ?_⟩
    rw [List.getD_eq_getElem?_getD, List.getElem?_eq_getElem hj] at h2
    exact h2.below hb
/-- An append of one row. -/
theorem wpList_append_row {w0 w : World} {ops : Array Oper} {rest : List Oper} {o : Oper} {a : Act} {Q : Exit → Act → World → Prop} (hgd : o.guard = none) (s x : Operand) (ho : o.op = .call { callee := .builtin .append, args := #[s, x], argTypes := #[22, 22] })
    (base : Nat) (v : Value) (ps : List By) (hs : a.eval s = v) (hown : OwnP w0 w base v ps) (g : Nat) (p : By) (u : Value) (hx : a.eval x = .slice (some ⟨g, 0, none⟩) 1 1) (hc : w.cell? ⟨g, 0, none⟩ = some u) (hu : EqN w0 p u) (hmax : (ps.length + 1) * 24 ≤ 140737488355328) (hb : base ≤ w.heap.size)
    (h : ∀ v' w', OwnP w0 w' base v' (ps ++ [p]) → Below base w w' → wpList Try.prog ops Q rest (a.put o.dst v') w') : wpList Try.prog ops Q (o :: rest) a w := by
  obtain ⟨i0, hi, hz0, hz1, hz2⟩ := info_parts info35
  obtain ⟨vs, hov, he⟩ := hown
  have hl : vs.length = ps.length := by have := hov.1; simpa using this
  obtain ⟨A, n, c, rfl⟩ : ∃ A n c, u = .slice A n c := by obtain ⟨A, c, e, _⟩ := hu; exact ⟨A, _, c, e⟩
  refine wpList_append_own _ hgd s x 22 ho base 35 i0 (.slice none 0 0) 1 24 Try.underlying22 hi hz0 hz1 hz2 rfl (by decide) v ps.length vs hs hov ⟨g, 0, none⟩ 1 1 [.slice A n c] hx rfl (fun j u' hj => ?_) (oneSlice A n c) (by unfold maxLen; omega) (by omega) hb ?_
  · match j, hj with
    | 0, hj => simp at hj; subst hj; rw [add_zero_off]; exact hc
  · intro v' w3 hown' hgrow _
    refine h v' w3 ⟨vs ++ [.slice A n c], by rw [List.length_append]; exact hown', fun j hj => ?_⟩ ((Below.refl base w).grown hgrow hb (own_base' hov))
    rw [List.length_append] at hj
    by_cases hlt : j < ps.length
    · obtain ⟨u', h1, h2⟩ := he j hlt
      refine ⟨u', by rw [List.getElem?_append_left (by omega)]; exact h1, ?_⟩
      rw [List.getD_eq_getElem?_getD, List.getElem?_append_left hlt, ← List.getD_eq_getElem?_getD]
      exact h2
    · have e : j = ps.length := by simp at hj; omega
      subst e
      refine ⟨.slice A n c, by rw [← hl]; simp, ?_⟩
      rw [List.getD_eq_getElem?_getD, List.getElem?_append_right (Nat.le_refl _)]
      simpa using hu
theorem EqN.take {w : World} {p : By} {A : Option Addr} {c : Nat} (h : EqN w p (.slice A p.length c)) (n : Nat) (hn : n ≤ p.length) : EqN w (p.take n) (.slice A n c) := by
  obtain ⟨A', c', e, hl, hr, hnil⟩ := h
  simp only [Value.slice.injEq] at e
  obtain ⟨rfl, _, rfl⟩ := e
  have e2 : (p.take n).length = n := by rw [List.length_take]; omega
  exact ⟨A, c, by rw [e2], by omega, hr.take n, hnil⟩
theorem cutL_len (ps : List By) : (cutL ps).length = min 20 ps.length := by simp [cutL]
theorem cutL_take (ps : List By) (i : Nat) (h : i < ps.length) (h2 : i < 20) : (cutL ps).take (i + 1) = (cutL ps).take i ++ [(ps.getD i []).take 600] := by
  rw [List.take_add_one]
  congr 1
  have : (cutL ps)[i]? = some ((ps.getD i []).take 600) := by
    simp [cutL, List.getElem?_take, h2, List.getD_eq_getElem?_getD, List.getElem?_eq_getElem h]
  rw [this]; rfl
theorem cutL_flat (ps : List By) : (cutL ps).flatten.length ≤ 12000 := by
  have h : ∀ l : List By, ((l.map (·.take 600)).flatten).length ≤ 600 * l.length := by
    intro l
    induction l with
    | nil => simp
    | cons x l ih =>
      rw [List.map_cons, List.flatten_cons, List.length_append, List.length_cons, List.length_take]
      omega
  have h2 := h (ps.take 20)
  rw [List.length_take] at h2
  unfold cutL
  omega
set_option maxRecDepth 100000 in
set_option maxHeartbeats 4000000 in
theorem cut_any (ps : List By) (A : Option Addr) (c : Nat) (w : World) (hr : RdN w A ps) (hc : ps.length ≤ c) : Calls Try.prog 24 #[.slice A ps.length c] w fun e w' => ∃ v, e = .returned v ∧ OwnP w w' w.heap.size v (cutL ps) ∧ Below w.heap.size w w' := by
  have hpl := hr.1
  replace hr := Lib.hid hr
  have CT := Lib.hid (cutL_take ps)
  have CL := Lib.hid (cutL_len ps)
  go_enter Try.func24, Try.ntmps24
  go_wp2
  go_loopg [3, 4] 20 (fun gk vv iv wr => ∃ i : Nat, gk = 20 - i ∧ i ≤ 20 ∧ i ≤ ps.length ∧ iv = .int .i64 (i : Int) ∧ OwnP w wr w.heap.size vv ((cutL ps).take i) ∧ Below w.heap.size w wr)
  case atStart => exact ⟨0, rfl, by omega, by omega, rfl, OwnP.nil _ _ _, Below.refl _ _⟩
  case round =>
    obtain ⟨i, rfl, hi, hi2, rfl, hown, hbel⟩ := hrel
    have hsz := hbel.size
    by_cases hlt : i < ps.length
    · have d1 : decide ((i : Int) < (ps.length : Int)) = true := by simp; omega
      by_cases h20 : i < 20
      · have d2 : decide ((i : Int) < 20) = true := by simp; omega
        obtain ⟨ad, v, rfl, hcell, hE⟩ := hr.out.at' i hlt
        have hct := CT.out i hlt h20
        obtain ⟨p, hp⟩ : ∃ p, ps.getD i [] = p := ⟨_, rfl⟩
        rw [hp] at hE hct
        obtain ⟨B, b, rfl, hbl, hbr, hbn⟩ := hE
        have q0 : wr.cell? (ad.add i) = some (.slice B p.length b) := (hbel.cell (World.block_lt_of_cell? _ _ hcell)).trans hcell
        have hEE : EqN w p (.slice B p.length b) := ⟨B, b, rfl, hbl, hbr, hbn⟩
        have hplen := hbr.1
        have hcl : ((cutL ps).take i).length = i := by rw [List.length_take, CL.out]; omega
        have HCT := Lib.hid hct
        have HO := Lib.hid hown
        have HB := Lib.hid hbel
        have HE := Lib.hid hEE
        have HCL := Lib.hid hcl
        clear hct hown hbel hEE hp hcell hbr hbn hcl
        by_cases h6 : 600 < p.length
        · have d3 : decide ((600 : Int) < (p.length : Int)) = true := by simp; omega
          have hbI : (600 : Int) ≤ (b : Int) := by omega
          replace HE := Lib.hid (HE.out.take 600 (by omega))
          go_wp2_with (first | (at_builtin; refine wpList_append_row rfl (.tmp 25) (.tmp 27) rfl w.heap.size u3 _ rfl (HO.out.below (below_alloc1 _ _)) wr.heap.size (p.take 600) (.slice B 600 b) rfl (cell_new wr _ 35 (0, 0) 0 _ rfl) HE.out (by rw [HCL.out]; omega) (by simp; omega) ?_; intro v' w3 hown3 hb3; have HO3 := Lib.hid hown3; have HB3 := Lib.hid ((HB.out.alloc hsz _).trans hb3); clear hown3 hb3) | fail)
          go_roundg (20 - (i + 1))
          case measure => omega
          case rel => exact ⟨i + 1, rfl, by omega, by omega, by go_num, by rw [HCT.out]; exact HO3.out, HB3.out⟩
        · have d3 : decide ((600 : Int) < (p.length : Int)) = false := by simp; omega
          have HE : Hid (EqN w (p.take 600) (.slice B p.length b)) := Lib.hid (by rw [List.take_of_length_le (by omega)]; exact HE.out)
          go_wp2_with (first | (at_builtin; refine wpList_append_row rfl (.tmp 25) (.tmp 27) rfl w.heap.size u3 _ rfl (HO.out.below (below_alloc1 _ _)) wr.heap.size (p.take 600) (.slice B p.length b) rfl (cell_new wr _ 35 (0, 0) 0 _ rfl) HE.out (by rw [HCL.out]; omega) (by simp; omega) ?_; intro v' w3 hown3 hb3; have HO3 := Lib.hid hown3; have HB3 := Lib.hid ((HB.out.alloc hsz _).trans hb3); clear hown3 hb3) | fail)
          go_roundg (20 - (i + 1))
          case measure => omega
          case rel => exact ⟨i + 1, rfl, by omega, by omega, by go_num, by rw [HCT.out]; exact HO3.out, HB3.out⟩
      · have d2 : decide ((i : Int) < 20) = false := by simp; omega
        have e20 : i = 20 := by omega
        have HO : Hid (OwnP w wr w.heap.size u3 (cutL ps)) := Lib.hid (by have := hown; rw [List.take_of_length_le (by rw [CL.out]; omega)] at this; exact this)
        have HB := Lib.hid hbel
        clear hown hbel
        go_wp2
        go_ret
        exact ⟨_, rfl, HO.out, HB.out⟩
    · have d1 : decide ((i : Int) < (ps.length : Int)) = false := by simp; omega
      have HO : Hid (OwnP w wr w.heap.size u3 (cutL ps)) := Lib.hid (by have := hown; rw [List.take_of_length_le (by rw [CL.out]; omega)] at this; exact this)
      have HB := Lib.hid hbel
      clear hown hbel
      go_wp2
      go_ret
      exact ⟨_, rfl, HO.out, HB.out⟩
end Go.Proofs.Ytjaakhjfpigdfaa
