import Derived.Test.YtjaakhjfpigdfaaS
/-! New, Sum of rows, Write, Sum and Copy of a hash. -/
namespace Go.Proofs.Ytjaakhjfpigdfaa
open Go.RowKit
set_option linter.unusedVariables false
set_option linter.unusedSimpArgs false
theorem EqN.nil (w : World) : EqN w [] (.slice none 0 0) := ⟨none, 0, rfl, by simp, ⟨by simp, fun j hj => by simp at hj⟩, fun _ => rfl⟩
theorem hash_empty {w : World} {g : Nat} (h : w.heap[g]? = some (.cells (hashA startL (.slice none 0 0) 0) 60 (0, 0))) : HashAt w g [] := ⟨_, h, EqN.nil w⟩
abbrev RdN (w : World) (A : Option Addr) (ps : List By) : Prop := RdR (EqN w) w A ps
theorem RdN.below {w w' : World} {A : Option Addr} {ps : List By} (h : RdN w A ps) (hb : Below w.heap.size w w') : RdN w' A ps := RdR.below h hb fun _ _ h => h.below hb
theorem RdN.at' {w : World} {A : Option Addr} {ps : List By} (h : RdN w A ps) (k : Nat) (hk : k < ps.length) : ∃ ad v, A = some ad ∧ w.cell? (ad.add k) = some v ∧ EqN w (ps.getD k []) v := by
  obtain ⟨ad, v, e, hc, hr⟩ := h.2 k hk
  refine ⟨ad, v, e, hc, ?_⟩
  rw [List.getD_eq_getElem?_getD, List.getElem?_eq_getElem hk]
  exact hr
theorem flat_take (ps : List By) (k : Nat) (hk : k < ps.length) : (ps.take (k + 1)).flatten = (ps.take k).flatten ++ ps.getD k [] := by
  rw [List.take_add_one, List.flatten_append, List.getD_eq_getElem?_getD, List.getElem?_eq_getElem hk]
  simp
theorem flat_le (ps : List By) (k : Nat) : (ps.take k).flatten.length ≤ ps.flatten.length := by
  have h : ps.flatten = (ps.take k).flatten ++ (ps.drop k).flatten := by rw [← List.flatten_append, List.take_append_drop]
  rw [h, List.length_append]; omega
set_option maxRecDepth 100000 in
set_option maxHeartbeats 4000000 in
theorem sum_any (ps : List By) (A : Option Addr) (c : Nat) (w : World) (hr : RdN w A ps) (hc : ps.length ≤ c) (hlen : ps.flatten.length ≤ 140737488355000) : Calls Try.prog 25 #[.slice A ps.length c] w fun e w' => e = .returned (.agg (V8 (sumL ps.flatten))) ∧ Below w.heap.size w w' := by
  have hZ := Lib.hid zeros32
  have hpl := hr.1
  have z1 : (w.alloc (.cells (V8 (List.replicate 32 0)) 25)).heap[w.heap.size]? = some (.cells (V8 (List.replicate 32 0)) 25 (0, 0)) := heap_new _ _ _ rfl
  have NW := new_any (w.alloc (.cells (V8 (List.replicate 32 0)) 25))
  have b1 : Below w.heap.size w (w.alloc (.cells (V8 (List.replicate 32 0)) 25)) := (Below.refl _ _).alloc (Nat.le_refl _) _
  have e1 : (w.alloc (.cells (V8 (List.replicate 32 0)) 25)).heap.size = w.heap.size + 1 := size_alloc _ _
  rw [e1] at NW
  obtain ⟨W1, hW1⟩ : ∃ W, w.alloc (.cells (V8 (List.replicate 32 0)) 25) = W := ⟨_, rfl⟩
  rw [hW1] at z1 NW b1 e1
  replace NW := Lib.hid NW
  replace z1 := Lib.hid z1
  replace hr := Lib.hid hr
  have HW1 := Lib.hid hW1
  clear hW1
  go_enter Try.func25, Try.ntmps25
  go_wp2_with fail
  rw [← hZ.out, HW1.out]
  refine NW.out.mono ?_
  rintro e w2 ⟨rfl, h2, hb2⟩
  have z2 := below_heap hb2 z1.out (by omega)
  have hat := hash_empty h2
  have b2 : Below w.heap.size w w2 := b1.trans (hb2.mono (by omega))
  have hlt2 : w.heap.size + 1 + 1 < w2.heap.size := (Array.getElem?_eq_some_iff.1 h2).1
  replace z2 := Lib.hid z2
  replace hat := Lib.hid hat
  replace b2 := Lib.hid b2
  obtain ⟨g, hg⟩ : ∃ g, w.heap.size + 1 + 1 = g := ⟨_, rfl⟩
  rw [hg] at hat hlt2 ⊢
  have hgg : w.heap.size < g := by omega
  clear NW z1 HW1 h2 hb2 b1 e1 hg
  go_wp2
  go_loopg [9] ps.length (fun gk iv wr => ∃ i : Nat, gk = ps.length - i ∧ i ≤ ps.length ∧ iv = .int .i64 (i : Int) ∧ HashAt wr g (ps.take i).flatten ∧ wr.heap[w.heap.size]? = some (.cells (V8 (List.replicate 32 0)) 25) ∧ Below w.heap.size w wr)
  case atStart => exact ⟨0, rfl, by omega, rfl, hat.out, z2.out, b2.out⟩
  case round =>
    clear hat z2 b2
    obtain ⟨i, rfl, hi, rfl, hat, hz, hbel⟩ := hrel
    by_cases hlt : i < ps.length
    · have hfl := flat_take ps i hlt
      have hle := flat_le ps (i + 1)
      have hr2 : RdN wr A ps := RdR.below hr.out (hbel.mono (Nat.le_refl _)) fun _ _ h => h.below hbel
      obtain ⟨ad, v, rfl, hcell, hE⟩ := hr2.at' i hlt
      have hlsum : (ps.take i).flatten.length + (ps.getD i []).length ≤ 140737488355328 := by
        rw [hfl, List.length_append] at hle; omega
      have TK := Lib.hid (take_any g (ps.take i).flatten (ps.getD i []) v wr hat hE hlsum)
      rw [← hfl] at TK
      have HZ := Lib.hid hz
      have HB := Lib.hid hbel
      clear hfl hle hr2 hE hlsum hat hz hbel
      go_wp2_with fail
      refine TK.out.mono ?_
      rintro e w3 ⟨rfl, h3, hb3⟩
      have h3' := Lib.hid h3
      have z3 := Lib.hid (show w3.heap[w.heap.size]? = some (.cells (V8 (List.replicate 32 0)) 25 (0, 0)) by rw [hb3.block _ (by have := (Array.getElem?_eq_some_iff.1 HZ.out).1; omega) (by omega)]; exact HZ.out)
      have B3 := Lib.hid (HB.out.trans (hb3.to_below (by omega) (HB.out.size)))
      clear TK h3 hb3 hcell HZ HB
      go_wp2
      go_roundg (ps.length - (i + 1))
      case measure => omega
      case rel => exact ⟨i + 1, rfl, by omega, by go_num, h3'.out, z3.out, B3.out⟩
    · obtain rfl : i = ps.length := by omega
      rw [List.take_length] at hat
      have EN := Lib.hid (end_any g ps.flatten wr hat hlen)
      have hZl := sumL_len ps.flatten
      obtain ⟨Z, hZ2⟩ : ∃ Z, sumL ps.flatten = Z := ⟨_, rfl⟩
      rw [hZ2] at hZl EN
      have HSZ := Lib.hid (show (Try.prog.info? 25).map (·.size) = some (V8 Z).size by rw [V8_size, hZl]; kernel_rfl)
      have HZ2 := Lib.hid (show (V8 (List.replicate 32 0)).size = (V8 Z).size by rw [V8_size, V8_size, hZl]; rfl)
      have HZZ := Lib.hid hZ2
      have HZ0 := Lib.hid hz
      have HB := Lib.hid hbel
      clear hat hZl hZ2 hz hbel hZ
      go_wp2_with fail
      refine EN.out.mono ?_
      rintro e w4 ⟨rfl, hb4⟩
      have z4 := Lib.hid (keepH hb4 HZ0.out)
      have B4 := Lib.hid (HB.out.trans (hb4.mono HB.out.size))
      clear EN hb4 HZ0 HB
      go_wp2_with ((with_reducible show wpList _ _ _ (⟨none, .store 25 (.tmp 2) (.tmp 18), _, _, _, _⟩ :: _) _ _); refine wpList_store_row rfl 25 (.tmp 2) (.tmp 18) rfl w.heap.size (V8 Z) rfl rfl 25 _ z4.out HSZ.out HZ2.out (V8_one _) ?_)
      have gz := setRow_heap w4 w.heap.size _ (V8 Z) _ _ z4.out
      have hrv := run_loadVar_row (P := Try.prog) (w4.setRow w.heap.size (V8 Z)) w.heap.size 25 25 (V8 Z) (0, 0) _ gz Try.underlying25 rfl HSZ.out
      exact bodyPost_ret (v := .agg (V8 Z)) (by simp [results, Try.results25, asAddr, hrv, Act.put]) rfl ⟨by rw [HZZ.out], below_setRow _ _ B4.out (Nat.le_refl _)⟩
end Go.Proofs.Ytjaakhjfpigdfaa
