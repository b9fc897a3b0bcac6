import Derived.Test.YtecaiaobbjddeaaB
import Derived.Deep.RegionHeld3
import Derived.Laws.BytesArg
import Derived.Laws.BytesString
/-! WordVarints and WordOne. -/
namespace Go.Proofs.Ytecaiaobbjddeaa
open Go.RowKit
set_option linter.unusedVariables false
set_option linter.unusedSimpArgs false

theorem wpAnyH_of {P : Program} {md : Region.Mode} {ops : Array Oper} {Q : Exit → Act → World → Prop} {S S2 : World → Prop} (hS : ∀ w, S2 w → S w) : ∀ (fuel : Nat) (listed : Array Bool) (a : Act) (w : World), wpAnyH P md ops Q S2 fuel listed a w → wpAnyH P md ops Q S fuel listed a w
  | 0, _, _, _, h => h
  | fuel + 1, _, _, _, h => ⟨h.1, fun i hi => wpOp_mono (fun a' w' h' => ⟨hS _ h'.1, wpAnyH_of hS fuel _ a' w' h'.2⟩) (h.2 i hi)⟩
def strV (l : List (BitVec 8)) : ByteArray := strOfNums (l.map fun c => (c.toNat : Int))
theorem conv_rd {w : World} {A : Option Addr} {l : List (BitVec 8)} (h : RdB w A l) (n c : Nat) (hn : n = l.length) : (convert 33 9 (.slice A n c)).run Try.prog w = .ok (.string (strV l)) w := by
  subst hn
  rcases A with _ | ad
  · have h0 : l = [] := by
      rcases Nat.eq_zero_or_pos l.length with h0 | h0
      · exact List.eq_nil_of_length_eq_zero h0
      · obtain ⟨ad, e, _⟩ := h.at' 0 h0; cases e
    subst h0
    exact run_convert_bytes_nil w 33 5 Try.underlying33 Try.underlying5 0 c 9 Try.underlying9
  ·
    have hl : (loadCells ad l.length).run Try.prog w = .ok ((l.map fun c => (c.toNat : Int)).map (Value.int .u8)).toArray w := by
      have := run_loadCells_list (P := Try.prog) w ad ((l.map fun c => (c.toNat : Int)).map (Value.int .u8)) (fun j v hj => by
        obtain ⟨hj1, hj2⟩ := List.getElem?_eq_some_iff.1 hj
        have hj' : j < l.length := by simpa using hj1
        obtain ⟨ad', e, hc⟩ := h.at' j hj'
        obtain rfl := Option.some.inj e
        rw [hc, ← hj2]; simp)
      simpa using this
    rw [run_convert_bytes_string w 33 9 5 _ l.length c Try.underlying33 Try.underlying5 Try.underlying9, run_bytesToString w _ l.length c _ hl, foldl_push_bytes]
    simp [strV, strOfNums, ByteArray.empty, ByteArray.emptyWithCapacity]
    rfl

set_option maxRecDepth 100000 in
set_option maxHeartbeats 4000000 in
theorem varints_any (x : BitVec 64) (l : List (BitVec 8)) (A : Option Addr) (cap : Nat) (w : World) (hr : RdB w A l) (hl : l.length ≤ cap) (_h : l.length * 1 ≤ 140737488351232) :
    Calls Try.prog 5 #[.int .u64 x.toNat, .slice A l.length cap] w fun e w' => e = .returned (.bool true) ∧ Below w.heap.size w w' := by
  have hx := x.isLt
  have hm := hr.1
  generalize x.toNat = X at *
  have hr2 := hr.take 400
  have hl2 : (l.take 400).length ≤ cap := by rw [List.length_take]; omega
  go_enter Try.func5, Try.ntmps5
  go_wp2_with fail
  refine (cut_any l A cap w hl hm).mono ?_
  rintro e w' ⟨rfl, rfl⟩
  generalize l.take 400 = b at *
  obtain ⟨⟨r1, r2, r3⟩, hR⟩ : ∃ r, vread b 0 0 = r := ⟨_, rfl⟩
  have RD : ∀ w, RdB w A b → Calls Try.prog 17 #[.slice A b.length cap] w fun e w' => e = .returned (.tuple #[.int .u64 (r1 : Int), .int .i64 (r2 : Int), .int .i64 (r3 : Int)]) ∧ w = w' := by
    intro w h
    refine (read_any b A b.length cap w rfl h hl2).mono ?_
    rintro e w' ⟨rfl, rfl⟩
    exact ⟨by rw [hR]; rfl, rfl⟩
  have RRD : ∀ w, RdB w A b → Calls Try.prog 18 #[.slice A b.length cap] w fun e w' => e = .returned (.tuple #[.int .u64 (r1 : Int), .int .i64 (r2 : Int), .int .i64 (r3 : Int)]) ∧ w = w' := by
    intro w h
    refine (rread_any b A b.length cap w rfl h hl2).mono ?_
    rintro e w' ⟨rfl, rfl⟩
    exact ⟨by rw [hR]; rfl, rfl⟩
  replace RD := Lib.hid (RD _ hr2)
  replace RRD := Lib.hid (RRD _ hr2)
  clear hR hr hr2 hm hl hl2 _h
  obtain ⟨V, hV⟩ : ∃ V, vlist 10 X = V := ⟨_, rfl⟩
  have HX := Lib.hid (show X < 18446744073709551616 from hx)
  have HV := Lib.hid hV
  clear hx hV
  go_upto_region 4 with (first | (go_at_call 17; refine RD.out.mono ?_; rintro e w' ⟨rfl, rfl⟩) | (go_at_call 18; refine RRD.out.mono ?_; rintro e w' ⟨rfl, rfl⟩))
  refine wp_region_noPanic ?_
  refine wp_region_held_drew (S := fun _ => True) (by kernel_rfl) trivial (fun _ => ?_)
  refine wpAnyH_take (i := 0) (v := ?_) rfl (by kernel_rfl) (by kernel_rfl) (by kernel_rfl) (fun _ _ _ h => h) (Or.inl ⟨by kernel_rfl, ?_⟩) (trivial) ?_
  rotate_left
  · intro w hSw
    try dsimp only at hSw
    try go_split_ands
    go_simp
    all_goals with_reducible rfl
  try simp only [Act.put, List.setIfInBounds_toArray, List.set_cons_zero, List.set_cons_succ]
  refine wpAnyH_take (i := 3) (v := ?_) rfl (by kernel_rfl) (by kernel_rfl) (by kernel_rfl) (fun _ _ _ h => h) (Or.inl ⟨by kernel_rfl, ?_⟩) (trivial) ?_
  rotate_left
  · intro w hSw
    try dsimp only at hSw
    try go_split_ands
    go_simp
    all_goals with_reducible rfl
  try simp only [Act.put, List.setIfInBounds_toArray, List.set_cons_zero, List.set_cons_succ]
  refine wpAnyH_ready (rs := [1]) (by kernel_rfl) (by simp) ?_
  refine AllReadyH.cons rfl (fun K hK => ?_) AllReadyH.nil
  go_simp
  refine (varint_any X HX.out _).mono ?_
  rintro e w1 ⟨g1, cap1, rfl, own1, b1⟩
  rw [HV.out] at own1
  rw [HV.out]
  have e1 := conv_rd (RdB.own own1) V.length cap1 rfl
  go_wp2_with fail
  refine hK.out _ _ (trivial) (fun _ => ?_)
  clear hK K
  try simp only [Act.put, List.setIfInBounds_toArray, List.set_cons_zero, List.set_cons_succ]
  refine wpAnyH_of (S2 := fun W => (convert 33 9 (.slice (some ⟨g1, 0, none⟩) V.length cap1)).run Try.prog W = .ok (.string (strV V)) W) (fun _ _ => trivial) _ _ _ _ ?_
  refine wpAnyH_take (i := 2) (v := ?_) rfl (by kernel_rfl) (by kernel_rfl) (by kernel_rfl) (fun _ _ _ h => h) (Or.inl ⟨by kernel_rfl, ?_⟩) (e1) ?_
  rotate_left
  · intro w hSw
    try dsimp only at hSw
    try go_split_ands
    go_simp
    all_goals with_reducible rfl
  try simp only [Act.put, List.setIfInBounds_toArray, List.set_cons_zero, List.set_cons_succ]
  refine wpAnyH_ready (rs := [4]) (by kernel_rfl) (by simp) ?_
  refine AllReadyH.cons rfl (fun K hK => ?_) AllReadyH.nil
  go_simp
  refine (rvarint_any X HX.out _).mono ?_
  rintro e w2 ⟨g2, cap2, rfl, own2, b2⟩
  rw [HV.out] at own2
  rw [HV.out]
  have e2 := conv_rd (RdB.own own2) V.length cap2 rfl
  have e3 := conv_rd (RdR.below (RdB.own own1) b2 (fun _ _ h => h)) V.length cap1 rfl
  go_wp2_with fail
  refine hK.out _ _ (e3) (fun _ => ?_)
  clear hK K
  try simp only [Act.put, List.setIfInBounds_toArray, List.set_cons_zero, List.set_cons_succ]
  refine wpAnyH_of (S2 := fun W => (convert 33 9 (.slice (some ⟨g1, 0, none⟩) V.length cap1)).run Try.prog W = .ok (.string (strV V)) W ∧ (convert 33 9 (.slice (some ⟨g2, 0, none⟩) V.length cap2)).run Try.prog W = .ok (.string (strV V)) W) (fun _ h => h.1) _ _ _ _ ?_
  refine wpAnyH_take (i := 5) (v := ?_) rfl (by kernel_rfl) (by kernel_rfl) (by kernel_rfl) (fun _ _ _ h => h) (Or.inl ⟨by kernel_rfl, ?_⟩) (⟨e3, e2⟩) ?_
  rotate_left
  · intro w hSw
    try dsimp only at hSw
    try go_split_ands
    go_simp
    all_goals with_reducible rfl
  try simp only [Act.put, List.setIfInBounds_toArray, List.set_cons_zero, List.set_cons_succ]
  refine wpAnyH_take (i := 6) (v := .bool true) rfl (by kernel_rfl) (by kernel_rfl) (by kernel_rfl) (fun _ _ _ h => h) (Or.inl ⟨by kernel_rfl, ?_⟩) (⟨e3, e2⟩) ?_
  · intro w hSw
    try dsimp only at hSw
    try go_split_ands
    go_simp
  try simp only [Act.put, List.setIfInBounds_toArray, List.set_cons_zero, List.set_cons_succ]
  refine wpAnyH_take (i := 7) (v := .bool true) rfl (by kernel_rfl) (by kernel_rfl) (by kernel_rfl) (fun _ _ _ h => h) (Or.inl ⟨by kernel_rfl, ?_⟩) (⟨e3, e2⟩) ?_
  · intro w hSw
    try dsimp only at hSw
    try go_split_ands
    go_simp
  try simp only [Act.put, List.setIfInBounds_toArray, List.set_cons_zero, List.set_cons_succ]
  refine wpAnyH_take (i := 8) (v := ?_) rfl (by kernel_rfl) (by kernel_rfl) (by kernel_rfl) (fun _ _ _ h => h) (Or.inl ⟨by kernel_rfl, ?_⟩) (⟨e3, e2⟩) ?_
  rotate_left
  · intro w hSw
    try dsimp only at hSw
    try go_split_ands
    go_simp
    all_goals with_reducible rfl
  try simp only [Act.put, List.setIfInBounds_toArray, List.set_cons_zero, List.set_cons_succ]
  refine wpAnyH_take (i := 9) (v := ?_) rfl (by kernel_rfl) (by kernel_rfl) (by kernel_rfl) (fun _ _ _ h => h) (Or.inl ⟨by kernel_rfl, ?_⟩) (⟨e3, e2⟩) ?_
  rotate_left
  · intro w hSw
    try dsimp only at hSw
    try go_split_ands
    go_simp
    all_goals with_reducible rfl
  try simp only [Act.put, List.setIfInBounds_toArray, List.set_cons_zero, List.set_cons_succ]
  refine wpAnyH_take (i := 10) (v := .bool true) rfl (by kernel_rfl) (by kernel_rfl) (by kernel_rfl) (fun _ _ _ h => h) (Or.inl ⟨by kernel_rfl, ?_⟩) (⟨e3, e2⟩) ?_
  · intro w hSw
    try dsimp only at hSw
    try go_split_ands
    go_simp
  try simp only [Act.put, List.setIfInBounds_toArray, List.set_cons_zero, List.set_cons_succ]
  refine wpAnyH_take (i := 11) (v := .bool true) rfl (by kernel_rfl) (by kernel_rfl) (by kernel_rfl) (fun _ _ _ h => h) (Or.inl ⟨by kernel_rfl, ?_⟩) (⟨e3, e2⟩) ?_
  · intro w hSw
    try dsimp only at hSw
    try go_split_ands
    go_simp
  try simp only [Act.put, List.setIfInBounds_toArray, List.set_cons_zero, List.set_cons_succ]
  refine wpAnyH_take (i := 12) (v := .bool true) rfl (by kernel_rfl) (by kernel_rfl) (by kernel_rfl) (fun _ _ _ h => h) (Or.inl ⟨by kernel_rfl, ?_⟩) (⟨e3, e2⟩) ?_
  · intro w hSw
    try dsimp only at hSw
    try go_split_ands
    go_simp
  try simp only [Act.put, List.setIfInBounds_toArray, List.set_cons_zero, List.set_cons_succ]
  refine wpAnyH_take (i := 13) (v := ?_) rfl (by kernel_rfl) (by kernel_rfl) (by kernel_rfl) (fun _ _ _ h => h) (Or.inl ⟨by kernel_rfl, ?_⟩) (⟨e3, e2⟩) ?_
  rotate_left
  · intro w hSw
    try dsimp only at hSw
    try go_split_ands
    go_simp
    all_goals with_reducible rfl
  try simp only [Act.put, List.setIfInBounds_toArray, List.set_cons_zero, List.set_cons_succ]
  refine wpAnyH_take (i := 14) (v := ?_) rfl (by kernel_rfl) (by kernel_rfl) (by kernel_rfl) (fun _ _ _ h => h) (Or.inl ⟨by kernel_rfl, ?_⟩) (⟨e3, e2⟩) ?_
  rotate_left
  · intro w hSw
    try dsimp only at hSw
    try go_split_ands
    go_simp
    all_goals with_reducible rfl
  try simp only [Act.put, List.setIfInBounds_toArray, List.set_cons_zero, List.set_cons_succ]
  refine wpAnyH_take (i := 15) (v := .bool true) rfl (by kernel_rfl) (by kernel_rfl) (by kernel_rfl) (fun _ _ _ h => h) (Or.inl ⟨by kernel_rfl, ?_⟩) (⟨e3, e2⟩) ?_
  · intro w hSw
    try dsimp only at hSw
    try go_split_ands
    go_simp
  try simp only [Act.put, List.setIfInBounds_toArray, List.set_cons_zero, List.set_cons_succ]
  refine wpAnyH_take (i := 16) (v := .bool true) rfl (by kernel_rfl) (by kernel_rfl) (by kernel_rfl) (fun _ _ _ h => h) (Or.inl ⟨by kernel_rfl, ?_⟩) (⟨e3, e2⟩) ?_
  · intro w hSw
    try dsimp only at hSw
    try go_split_ands
    go_simp
  try simp only [Act.put, List.setIfInBounds_toArray, List.set_cons_zero, List.set_cons_succ]
  refine wpAnyH_take (i := 17) (v := .bool true) rfl (by kernel_rfl) (by kernel_rfl) (by kernel_rfl) (fun _ _ _ h => h) (Or.inl ⟨by kernel_rfl, ?_⟩) (⟨e3, e2⟩) ?_
  · intro w hSw
    try dsimp only at hSw
    try go_split_ands
    go_simp
  try simp only [Act.put, List.setIfInBounds_toArray, List.set_cons_zero, List.set_cons_succ]
  refine wpAnyH_take (i := 18) (v := ?_) rfl (by kernel_rfl) (by kernel_rfl) (by kernel_rfl) (fun _ _ _ h => h) (Or.inl ⟨by kernel_rfl, ?_⟩) (⟨e3, e2⟩) ?_
  rotate_left
  · intro w hSw
    try dsimp only at hSw
    try go_split_ands
    go_simp
    all_goals with_reducible rfl
  try simp only [Act.put, List.setIfInBounds_toArray, List.set_cons_zero, List.set_cons_succ]
  refine wpAnyH_take (i := 19) (v := ?_) rfl (by kernel_rfl) (by kernel_rfl) (by kernel_rfl) (fun _ _ _ h => h) (Or.inl ⟨by kernel_rfl, ?_⟩) (⟨e3, e2⟩) ?_
  rotate_left
  · intro w hSw
    try dsimp only at hSw
    try go_split_ands
    go_simp
    all_goals with_reducible rfl
  try simp only [Act.put, List.setIfInBounds_toArray, List.set_cons_zero, List.set_cons_succ]
  refine wpAnyH_take (i := 20) (v := .bool true) rfl (by kernel_rfl) (by kernel_rfl) (by kernel_rfl) (fun _ _ _ h => h) (Or.inl ⟨by kernel_rfl, ?_⟩) (⟨e3, e2⟩) ?_
  · intro w hSw
    try dsimp only at hSw
    try go_split_ands
    go_simp
  try simp only [Act.put, List.setIfInBounds_toArray, List.set_cons_zero, List.set_cons_succ]
  refine wpAnyH_take (i := 21) (v := .bool true) rfl (by kernel_rfl) (by kernel_rfl) (by kernel_rfl) (fun _ _ _ h => h) (Or.inl ⟨by kernel_rfl, ?_⟩) (⟨e3, e2⟩) ?_
  · intro w hSw
    try dsimp only at hSw
    try go_split_ands
    go_simp
  try simp only [Act.put, List.setIfInBounds_toArray, List.set_cons_zero, List.set_cons_succ]
  refine wpAnyH_take (i := 22) (v := .bool true) rfl (by kernel_rfl) (by kernel_rfl) (by kernel_rfl) (fun _ _ _ h => h) (Or.inl ⟨by kernel_rfl, ?_⟩) (⟨e3, e2⟩) ?_
  · intro w hSw
    try dsimp only at hSw
    try go_split_ands
    go_simp
  try simp only [Act.put, List.setIfInBounds_toArray, List.set_cons_zero, List.set_cons_succ]
  refine wpAnyH_ready (rs := [23]) (by kernel_rfl) (by simp) ?_
  refine AllReadyH.cons rfl (fun K hK => ?_) AllReadyH.nil
  go_simp
  refine (alive_any _).mono ?_
  rintro e w3 ⟨rfl, b3⟩
  go_wp2_with fail
  refine hK.out _ _ (⟨conv_rd (RdR.below (RdR.below (RdB.own own1) b2 (fun _ _ h => h)) b3 (fun _ _ h => h)) V.length cap1 rfl, conv_rd (RdR.below (RdB.own own2) b3 (fun _ _ h => h)) V.length cap2 rfl⟩) (fun _ => ?_)
  clear hK K
  try simp only [Act.put, List.setIfInBounds_toArray, List.set_cons_zero, List.set_cons_succ]
  refine wpAnyH_take (i := 24) (oi := { dst := some 49, op := Op.pick (Operand.tmp 47) (Operand.tmp 48) (Operand.const (Value.bool false)), type := 4, pos := "law.go:63", after := #[{ on := 22, ground := Ground.data }, { on := 23, ground := Ground.data }], guard := none }) (v := .bool true) rfl (by kernel_rfl) (by kernel_rfl) (by kernel_rfl) (fun _ _ _ h => h) (Or.inl ⟨by kernel_rfl, ?_⟩) (⟨conv_rd (RdR.below (RdR.below (RdB.own own1) b2 (fun _ _ h => h)) b3 (fun _ _ h => h)) V.length cap1 rfl, conv_rd (RdR.below (RdB.own own2) b3 (fun _ _ h => h)) V.length cap2 rfl⟩) ?_
  · intro w hSw
    try dsimp only at hSw
    try go_split_ands
    go_simp
  try simp only [Act.put, List.setIfInBounds_toArray, List.set_cons_zero, List.set_cons_succ]
  refine wpAnyH_take (i := 25) (oi := { dst := some 4, op := Op.assign (Operand.tmp 49), type := 4, pos := "law.go:63", after := #[{ on := 24, ground := Ground.data }, { on := 23, ground := Ground.chain }, { on := 0, ground := Ground.phase }, { on := 1, ground := Ground.phase }, { on := 2, ground := Ground.phase }, { on := 3, ground := Ground.phase }, { on := 4, ground := Ground.phase }, { on := 5, ground := Ground.phase }, { on := 6, ground := Ground.phase }, { on := 7, ground := Ground.phase }, { on := 8, ground := Ground.phase }, { on := 9, ground := Ground.phase }, { on := 10, ground := Ground.phase }, { on := 11, ground := Ground.phase }, { on := 12, ground := Ground.phase }, { on := 13, ground := Ground.phase }, { on := 14, ground := Ground.phase }, { on := 15, ground := Ground.phase }, { on := 16, ground := Ground.phase }, { on := 17, ground := Ground.phase }, { on := 18, ground := Ground.phase }, { on := 19, ground := Ground.phase }, { on := 20, ground := Ground.phase }, { on := 21, ground := Ground.phase }, { on := 22, ground := Ground.phase }, { on := 23, ground := Ground.phase }, { on := 24, ground := Ground.phase }], guard := none }) (v := .bool true) rfl (by kernel_rfl) (by kernel_rfl) (by kernel_rfl) (fun _ _ _ h => h) (Or.inl ⟨by kernel_rfl, ?_⟩) (⟨conv_rd (RdR.below (RdR.below (RdB.own own1) b2 (fun _ _ h => h)) b3 (fun _ _ h => h)) V.length cap1 rfl, conv_rd (RdR.below (RdB.own own2) b3 (fun _ _ h => h)) V.length cap2 rfl⟩) ?_
  · intro w hSw
    try dsimp only at hSw
    try go_split_ands
    go_simp
  try simp only [Act.put, List.setIfInBounds_toArray, List.set_cons_zero, List.set_cons_succ]
  refine wpAnyH_done (by kernel_rfl) ?_ _
  refine NoPanic.normal ?_
  go_wp2
  go_ret
  exact ⟨rfl, Below.trans (Below.trans (Below.trans (Below.refl _ _).drew (b1.mono (Nat.le_refl _))) (b2.mono b1.size)) (b3.mono (Nat.le_trans b1.size b2.size))⟩
end Go.Proofs.Ytecaiaobbjddeaa
