import Derived.Test.YtecaiaobbjddeaaC
/-! WordOne. -/
namespace Go.Proofs.Ytecaiaobbjddeaa
open Go.RowKit
set_option linter.unusedVariables false
set_option linter.unusedSimpArgs false

/-- What is read as a varint has just these bytes. -/
theorem vread_err : ∀ (t : List (BitVec 8)) (i X r1 r2 r3 : Nat), vread t i X = (r1, r2, r3) → r3 ≠ 0 → r1 = 0 := by
  intro t
  induction t with
  | nil => intro i X r1 r2 r3 h _; simp [vread] at h; omega
  | cons c t ih =>
    intro i X r1 r2 r3 h h3
    rw [vread] at h
    split at h
    · simp at h; omega
    · split at h
      · simp at h; omega
      · exact ih _ _ _ _ _ h h3
theorem vlist_read : ∀ (t : List (BitVec 8)) (i X r1 r2 : Nat), i ≤ 9 → X < 128 ^ i → vread t i X = (r1, r2, 0) →
    ∃ y m, r1 = X + y * 128 ^ i ∧ r2 = i + m ∧ 1 ≤ m ∧ m ≤ t.length ∧ r2 ≤ 10 ∧ (i = 0 ∨ 0 < y) ∧ r1 < 18446744073709551616 ∧ ∀ f, m ≤ f → vlist f y = t.take m := by
  intro t
  induction t with
  | nil => intro i X r1 r2 _ _ h; simp [vread] at h
  | cons c t ih =>
    intro i X r1 r2 hi hX h
    have hc := c.isLt
    rw [vread] at h
    split at h
    · simp at h
    · rename_i h1
      obtain ⟨n1, n2⟩ := vnew c.toNat X i hi hc h1 hX
      split at h
      · rename_i h8
        simp only [Prod.mk.injEq] at h
        obtain ⟨rfl, rfl, _⟩ := h
        refine ⟨c.toNat, 1, by rw [Nat.mod_eq_of_lt h8], rfl, by omega, by simp, by omega, by omega, n1, fun f hf => ?_⟩
        obtain ⟨f', rfl⟩ : ∃ f', f = f' + 1 := ⟨f - 1, by omega⟩
        rw [vlist_small f' _ h8]
        simp
      · rename_i h8
        have hi8 : i ≤ 8 := by omega
        obtain ⟨y, m, hy, hm, m1, m2, m3, m4, m5, m6⟩ := ih (i + 1) _ r1 r2 (by omega) n2 h
        refine ⟨c.toNat % 128 + 128 * y, m + 1, ?_, by omega, by omega, by simp; omega, m3, .inr (by omega), m5, fun f hf => ?_⟩
        · rw [hy, Nat.add_mul, Nat.pow_succ, Nat.mul_comm (128 ^ i) 128, ← Nat.mul_assoc, Nat.mul_comm y 128]; omega
        · obtain ⟨f', rfl⟩ : ∃ f', f = f' + 1 := ⟨f - 1, by omega⟩
          have y1 : 0 < y := by omega
          rw [vlist_big f' _ (by omega), show (c.toNat % 128 + 128 * y) / 128 = y by omega, m6 f' (by omega), show (c.toNat % 128 + 128 * y) % 128 + 128 = c.toNat by omega, List.take_succ_cons]
          congr 1
          simp
theorem one_law (b : List (BitVec 8)) (r1 r2 : Nat) (h : vread b 0 0 = (r1, r2, 0)) : 1 ≤ r2 ∧ r2 ≤ b.length ∧ r1 < 18446744073709551616 ∧ vlist 10 r1 = b.take r2 := by
  obtain ⟨y, m, hy, hm, m1, m2, m3, _, m5, m6⟩ := vlist_read b 0 0 r1 r2 (by omega) (by simp) h
  simp at hy hm
  subst hy hm
  exact ⟨m1, m2, m5, m6 10 m3⟩

set_option maxRecDepth 100000 in
set_option maxHeartbeats 4000000 in
theorem one_any (l : List (BitVec 8)) (A : Option Addr) (cap : Nat) (w : World) (hr : RdB w A l) (hl : l.length ≤ cap) (_h : l.length * 1 ≤ 140737488351232) :
    Calls Try.prog 6 #[.slice A l.length cap] w fun e w' => e = .returned (.bool true) ∧ Below w.heap.size w w' := by
  have hm := hr.1
  have hr2 := hr.take 400
  have hl2 : (l.take 400).length ≤ cap := by rw [List.length_take]; omega
  go_enter Try.func6, Try.ntmps6
  go_wp2_with fail
  refine (cut_any l A cap w hl hm).mono ?_
  rintro e w' ⟨rfl, rfl⟩
  generalize l.take 400 = b at *
  have hbm := hr2.1
  obtain ⟨⟨r1, r2, r3⟩, hR⟩ : ∃ r, vread b 0 0 = r := ⟨_, rfl⟩
  have RD : Calls Try.prog 17 #[.slice A b.length cap] w fun e w' => e = .returned (.tuple #[.int .u64 (r1 : Int), .int .i64 (r2 : Int), .int .i64 (r3 : Int)]) ∧ w = w' := by
    refine (read_any b A b.length cap w rfl hr2 hl2).mono ?_
    rintro e w' ⟨rfl, rfl⟩
    exact ⟨by rw [hR]; rfl, rfl⟩
  replace RD := Lib.hid RD
  have Hr2 := Lib.hid hr2
  clear hr hr2 hm hl _h
  by_cases h3 : r3 = 0
  · subst h3
    obtain ⟨k1, k2, k3, k4⟩ := one_law b r1 r2 hR
    have K3 := Lib.hid k3
    have K4 := Lib.hid k4
    clear k3 k4 hR
    have Hd := Lib.hid (RdR.below (Hr2.out.take r2) ((Below.refl w.heap.size w).drew) (fun _ _ h => h))
    have hcut := conv_rd Hd.out r2 cap (by rw [List.length_take]; omega)
    have k1z : (1 : Int) ≤ (r2 : Int) := by omega
    have k2z : (r2 : Int) ≤ (b.length : Int) := by omega
    have k3z : (0 : Int) ≤ (r2 : Int) := by omega
    have k4z : (r2 : Int) ≤ (cap : Int) := by omega
    go_upto_region 5 with (go_at_call 17; refine RD.out.mono ?_; rintro e w' ⟨rfl, rfl⟩)
    refine wp_region_noPanic ?_
    refine wp_region_held_drew (S := fun W => (convert 33 9 (.slice A r2 cap)).run Try.prog W = .ok (.string (strV (b.take r2))) W) (by kernel_rfl) hcut (fun _ => ?_)
    refine wpAnyH_take (i := 0) (v := ?_) rfl (by kernel_rfl) (by kernel_rfl) (by kernel_rfl) (fun _ _ _ h => h) (Or.inl ⟨by kernel_rfl, ?_⟩) (hcut) ?_
    rotate_left
    · intro w hSw
      try dsimp only at hSw
      try go_split_ands
      go_simp
      all_goals with_reducible rfl
    try simp only [Act.put, List.setIfInBounds_toArray, List.set_cons_zero, List.set_cons_succ]
    refine wpAnyH_take (i := 1) (v := .bool true) rfl (by kernel_rfl) (by kernel_rfl) (by kernel_rfl) (fun _ _ _ h => h) (Or.inl ⟨by kernel_rfl, ?_⟩) (hcut) ?_
    · intro w hSw
      try dsimp only at hSw
      try go_split_ands
      go_simp
    try simp only [Act.put, List.setIfInBounds_toArray, List.set_cons_zero, List.set_cons_succ]
    refine wpAnyH_take (i := 2) (v := .bool true) rfl (by kernel_rfl) (by kernel_rfl) (by kernel_rfl) (fun _ _ _ h => h) (Or.inl ⟨by kernel_rfl, ?_⟩) (hcut) ?_
    · intro w hSw
      try dsimp only at hSw
      try go_split_ands
      go_simp
    try simp only [Act.put, List.setIfInBounds_toArray, List.set_cons_zero, List.set_cons_succ]
    refine wpAnyH_take (i := 3) (v := ?_) rfl (by kernel_rfl) (by kernel_rfl) (by kernel_rfl) (fun _ _ _ h => h) (Or.inl ⟨by kernel_rfl, ?_⟩) (hcut) ?_
    rotate_left
    · intro w hSw
      try dsimp only at hSw
      try go_split_ands
      go_simp
      all_goals with_reducible rfl
    try simp only [Act.put, List.setIfInBounds_toArray, List.set_cons_zero, List.set_cons_succ]
    refine wpAnyH_take (i := 4) (v := ?_) rfl (by kernel_rfl) (by kernel_rfl) (by kernel_rfl) (fun _ _ _ h => h) (Or.inl ⟨by kernel_rfl, ?_⟩) (hcut) ?_
    rotate_left
    · intro w hSw
      try dsimp only at hSw
      try go_split_ands
      go_simp
      all_goals with_reducible rfl
    try simp only [Act.put, List.setIfInBounds_toArray, List.set_cons_zero, List.set_cons_succ]
    refine wpAnyH_take (i := 5) (v := ?_) rfl (by kernel_rfl) (by kernel_rfl) (by kernel_rfl) (fun _ _ _ h => h) (Or.inl ⟨by kernel_rfl, ?_⟩) (hcut) ?_
    rotate_left
    · intro w hSw
      try dsimp only at hSw
      try go_split_ands
      go_simp
      all_goals with_reducible rfl
    try simp only [Act.put, List.setIfInBounds_toArray, List.set_cons_zero, List.set_cons_succ]
    refine wpAnyH_take (i := 6) (v := .bool true) rfl (by kernel_rfl) (by kernel_rfl) (by kernel_rfl) (fun _ _ _ h => h) (Or.inl ⟨by kernel_rfl, ?_⟩) (hcut) ?_
    · intro w hSw
      try dsimp only at hSw
      try go_split_ands
      go_simp
    try simp only [Act.put, List.setIfInBounds_toArray, List.set_cons_zero, List.set_cons_succ]
    refine wpAnyH_take (i := 7) (v := .bool true) rfl (by kernel_rfl) (by kernel_rfl) (by kernel_rfl) (fun _ _ _ h => h) (Or.inl ⟨by kernel_rfl, ?_⟩) (hcut) ?_
    · intro w hSw
      try dsimp only at hSw
      try go_split_ands
      go_simp
    try simp only [Act.put, List.setIfInBounds_toArray, List.set_cons_zero, List.set_cons_succ]
    refine wpAnyH_take (i := 8) (v := .bool true) rfl (by kernel_rfl) (by kernel_rfl) (by kernel_rfl) (fun _ _ _ h => h) (Or.inl ⟨by kernel_rfl, ?_⟩) (hcut) ?_
    · intro w hSw
      try dsimp only at hSw
      try go_split_ands
      go_simp
    try simp only [Act.put, List.setIfInBounds_toArray, List.set_cons_zero, List.set_cons_succ]
    refine wpAnyH_take (i := 9) (v := ?_) rfl (by kernel_rfl) (by kernel_rfl) (by kernel_rfl) (fun _ _ _ h => h) (Or.inl ⟨by kernel_rfl, ?_⟩) (hcut) ?_
    rotate_left
    · intro w hSw
      try dsimp only at hSw
      try go_split_ands
      go_simp
      all_goals with_reducible rfl
    try simp only [Act.put, List.setIfInBounds_toArray, List.set_cons_zero, List.set_cons_succ]
    refine wpAnyH_take (i := 12) (v := ?_) rfl (by kernel_rfl) (by kernel_rfl) (by kernel_rfl) (fun _ _ _ h => h) (Or.inl ⟨by kernel_rfl, ?_⟩) (hcut) ?_
    rotate_left
    · intro w hSw
      try dsimp only at hSw
      try go_split_ands
      go_simp
      all_goals with_reducible rfl
    try simp only [Act.put, List.setIfInBounds_toArray, List.set_cons_zero, List.set_cons_succ]
    refine wpAnyH_take (i := 13) (v := ?_) rfl (by kernel_rfl) (by kernel_rfl) (by kernel_rfl) (fun _ _ _ h => h) (Or.inl ⟨by kernel_rfl, ?_⟩) (hcut) ?_
    rotate_left
    · intro w hSw
      try dsimp only at hSw
      try go_split_ands
      go_simp
      all_goals with_reducible rfl
    try simp only [Act.put, List.setIfInBounds_toArray, List.set_cons_zero, List.set_cons_succ]
    refine wpAnyH_take (i := 14) (v := ?_) rfl (by kernel_rfl) (by kernel_rfl) (by kernel_rfl) (fun _ _ _ h => h) (Or.inl ⟨by kernel_rfl, ?_⟩) (hcut) ?_
    rotate_left
    · intro w hSw
      try dsimp only at hSw
      try go_split_ands
      go_simp
      all_goals with_reducible rfl
    try simp only [Act.put, List.setIfInBounds_toArray, List.set_cons_zero, List.set_cons_succ]
    refine wpAnyH_take (i := 15) (v := .string (strV (b.take r2))) rfl (by kernel_rfl) (by kernel_rfl) (by kernel_rfl) (fun _ _ _ h => h) (Or.inl ⟨by kernel_rfl, ?_⟩) (hcut) ?_
    · intro w hSw
      try dsimp only at hSw
      try go_split_ands
      go_simp
    try simp only [Act.put, List.setIfInBounds_toArray, List.set_cons_zero, List.set_cons_succ]
    refine wpAnyH_ready (rs := [10]) (by kernel_rfl) (by simp) ?_
    refine AllReadyH.cons rfl (fun K hK => ?_) AllReadyH.nil
    go_simp
    refine (varint_any r1 K3.out _).mono ?_
    rintro e w1 ⟨g1, cap1, rfl, own1, b1⟩
    rw [K4.out] at own1
    rw [K4.out]
    have e1 := conv_rd (RdB.own own1) r2 cap1 (by rw [List.length_take]; omega)
    have e3 := conv_rd (RdR.below Hd.out b1 (fun _ _ h => h)) r2 cap (by rw [List.length_take]; omega)
    go_wp2_with fail
    refine hK.out _ _ (e3) (fun _ => ?_)
    clear hK K
    try simp only [Act.put, List.setIfInBounds_toArray, List.set_cons_zero, List.set_cons_succ]
    refine wpAnyH_of (S2 := fun W => (convert 33 9 (.slice A r2 cap)).run Try.prog W = .ok (.string (strV (b.take r2))) W ∧ (convert 33 9 (.slice (some ⟨g1, 0, none⟩) r2 cap1)).run Try.prog W = .ok (.string (strV (b.take r2))) W) (fun _ h => h.1) _ _ _ _ ?_
    refine wpAnyH_take (i := 11) (v := .string (strV (b.take r2))) rfl (by kernel_rfl) (by kernel_rfl) (by kernel_rfl) (fun _ _ _ h => h) (Or.inl ⟨by kernel_rfl, ?_⟩) (⟨e3, e1⟩) ?_
    · intro w hSw
      try dsimp only at hSw
      try go_split_ands
      go_simp
    try simp only [Act.put, List.setIfInBounds_toArray, List.set_cons_zero, List.set_cons_succ]
    refine wpAnyH_take (i := 16) (v := .bool true) rfl (by kernel_rfl) (by kernel_rfl) (by kernel_rfl) (fun _ _ _ h => h) (Or.inl ⟨by kernel_rfl, ?_⟩) (⟨e3, e1⟩) ?_
    · intro w hSw
      try dsimp only at hSw
      try go_split_ands
      go_simp
    try simp only [Act.put, List.setIfInBounds_toArray, List.set_cons_zero, List.set_cons_succ]
    refine wpAnyH_take (i := 17) (v := .bool true) rfl (by kernel_rfl) (by kernel_rfl) (by kernel_rfl) (fun _ _ _ h => h) (Or.inl ⟨by kernel_rfl, ?_⟩) (⟨e3, e1⟩) ?_
    · intro w hSw
      try dsimp only at hSw
      try go_split_ands
      go_simp
    try simp only [Act.put, List.setIfInBounds_toArray, List.set_cons_zero, List.set_cons_succ]
    refine wpAnyH_take (i := 18) (v := .bool true) rfl (by kernel_rfl) (by kernel_rfl) (by kernel_rfl) (fun _ _ _ h => h) (Or.inl ⟨by kernel_rfl, ?_⟩) (⟨e3, e1⟩) ?_
    · intro w hSw
      try dsimp only at hSw
      try go_split_ands
      go_simp
    try simp only [Act.put, List.setIfInBounds_toArray, List.set_cons_zero, List.set_cons_succ]
    refine wpAnyH_ready (rs := [19]) (by kernel_rfl) (by simp) ?_
    refine AllReadyH.cons rfl (fun K hK => ?_) AllReadyH.nil
    go_simp
    refine (alive_any _).mono ?_
    rintro e w3 ⟨rfl, b3⟩
    go_wp2_with fail
    refine hK.out _ _ (⟨conv_rd (RdR.below (RdR.below Hd.out b1 (fun _ _ h => h)) b3 (fun _ _ h => h)) r2 cap (by rw [List.length_take]; omega), conv_rd (RdR.below (RdB.own own1) b3 (fun _ _ h => h)) r2 cap1 (by rw [List.length_take]; omega)⟩) (fun _ => ?_)
    clear hK K
    try simp only [Act.put, List.setIfInBounds_toArray, List.set_cons_zero, List.set_cons_succ]
    refine wpAnyH_take (i := 20) (oi := { dst := some 41, op := Op.pick (Operand.tmp 39) (Operand.tmp 40) (Operand.const (Value.bool false)), type := 4, pos := "law.go:97", after := #[{ on := 18, ground := Ground.data }, { on := 19, ground := Ground.data }], guard := none }) (v := .bool true) rfl (by kernel_rfl) (by kernel_rfl) (by kernel_rfl) (fun _ _ _ h => h) (Or.inl ⟨by kernel_rfl, ?_⟩) (⟨conv_rd (RdR.below (RdR.below Hd.out b1 (fun _ _ h => h)) b3 (fun _ _ h => h)) r2 cap (by rw [List.length_take]; omega), conv_rd (RdR.below (RdB.own own1) b3 (fun _ _ h => h)) r2 cap1 (by rw [List.length_take]; omega)⟩) ?_
    · intro w hSw
      try dsimp only at hSw
      try go_split_ands
      go_simp
    try simp only [Act.put, List.setIfInBounds_toArray, List.set_cons_zero, List.set_cons_succ]
    refine wpAnyH_take (i := 21) (oi := { dst := some 2, op := Op.assign (Operand.tmp 41), type := 4, pos := "law.go:97", after := #[{ on := 20, ground := Ground.data }, { on := 19, ground := Ground.chain }, { on := 0, ground := Ground.phase }, { on := 1, ground := Ground.phase }, { on := 2, ground := Ground.phase }, { on := 3, ground := Ground.phase }, { on := 4, ground := Ground.phase }, { on := 5, ground := Ground.phase }, { on := 6, ground := Ground.phase }, { on := 7, ground := Ground.phase }, { on := 8, ground := Ground.phase }, { on := 9, ground := Ground.phase }, { on := 10, ground := Ground.phase }, { on := 11, ground := Ground.phase }, { on := 12, ground := Ground.phase }, { on := 13, ground := Ground.phase }, { on := 14, ground := Ground.phase }, { on := 15, ground := Ground.phase }, { on := 16, ground := Ground.phase }, { on := 17, ground := Ground.phase }, { on := 18, ground := Ground.phase }, { on := 19, ground := Ground.phase }, { on := 20, ground := Ground.phase }], guard := none }) (v := .bool true) rfl (by kernel_rfl) (by kernel_rfl) (by kernel_rfl) (fun _ _ _ h => h) (Or.inl ⟨by kernel_rfl, ?_⟩) (⟨conv_rd (RdR.below (RdR.below Hd.out b1 (fun _ _ h => h)) b3 (fun _ _ h => h)) r2 cap (by rw [List.length_take]; omega), conv_rd (RdR.below (RdB.own own1) b3 (fun _ _ h => h)) r2 cap1 (by rw [List.length_take]; omega)⟩) ?_
    · intro w hSw
      try dsimp only at hSw
      try go_split_ands
      go_simp
    try simp only [Act.put, List.setIfInBounds_toArray, List.set_cons_zero, List.set_cons_succ]
    refine wpAnyH_done (by kernel_rfl) ?_ _
    refine NoPanic.normal ?_
    go_wp2
    go_ret
    exact ⟨rfl, Below.trans (Below.trans (Below.refl _ _).drew (b1.mono (Nat.le_refl _))) (b3.mono b1.size)⟩
  · have h1 := vread_err b 0 0 r1 r2 r3 hR h3
    subst h1
    have hne : ((r3 : Int) != 0) = true := by simp; omega
    have H3 := Lib.hid h3
    clear h3 hR
    go_wp2_with (first | (go_at_call 17; refine RD.out.mono ?_; rintro e w' ⟨rfl, rfl⟩) | (go_at_call 11; refine (alive_any _).mono ?_; rintro e w3 ⟨rfl, b3⟩))
    go_ret
    exact ⟨rfl, b3⟩
end Go.Proofs.Ytecaiaobbjddeaa
