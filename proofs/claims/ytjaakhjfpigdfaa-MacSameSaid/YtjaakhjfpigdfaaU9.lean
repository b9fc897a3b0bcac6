import Derived.Test.YtjaakhjfpigdfaaU8
/-! Copy of a hash. -/
namespace Go.Proofs.Ytjaakhjfpigdfaa
open Go.RowKit
set_option linter.unusedVariables false
set_option linter.unusedSimpArgs false
set_option maxRecDepth 100000 in
set_option maxHeartbeats 4000000 in
theorem hcopy_any (g : Nat) (l : By) (w : World) (h : HashAt w g l) : Calls Try.prog 43 #[.pointer (some ⟨g, 0, none⟩)] w fun e w' => e = .returned (.tuple #[.pointer (some ⟨w.heap.size, 0, none⟩), .int .i64 0]) ∧ HashAt w' w.heap.size l ∧ Below w.heap.size w w' := by
  have IS := Lib.hid (is_any g w h.made)
  obtain ⟨lv, hc, hlv⟩ := h
  have HLV := Lib.hid (show ∃ a k c, lv = .slice a k c from by obtain ⟨a, c, e, _⟩ := hlv; exact ⟨a, _, c, e⟩)
  have hg : g < w.heap.size := (Array.getElem?_eq_some_iff.1 hc).1
  have hsl := stL_len l
  obtain ⟨la, lk, lc, hlf⟩ : ∃ a k c, lv = .slice a k c := HLV.out
  have hsz : (Try.prog.info? 60).map (·.size) = some (hashA (stL l) lv l.length).size := by rw [hashA_size _ hsl]; kernel_rfl
  have hone : (hashA (stL l) lv l.length).all (·.oneCell') = true := by rw [hlf]; exact hash_one _ _ _ _ _
  have HSZ := Lib.hid hsz
  have HONE := Lib.hid hone
  have HC := Lib.hid hc
  have HS := Lib.hid hsl
  have HCS := Lib.hid (hashA_size (stL l) hsl lv l.length)
  replace hlv := Lib.hid hlv
  obtain ⟨X, hX⟩ : ∃ X, hashA (stL l) lv l.length = X := ⟨_, rfl⟩
  rw [hX] at HSZ HONE HC HCS
  have HX := Lib.hid hX
  clear hsz hone hc hsl hX hlf
  go_enter Try.func43, Try.ntmps43
  go_upto_region 4 with (first | (go_at_call 84; refine IS.out.mono ?_; rintro e w2 ⟨rfl, rfl⟩) | ((with_reducible show wpList _ _ _ (⟨some 10, .load 60 (.tmp 9), _, _, _, _⟩ :: _) _ _); refine wpList_load_row rfl 60 (.tmp 9) rfl g rfl 60 X _ HC.out Try.underlying60 rfl HSZ.out ?_) | ((with_reducible show wpList _ _ _ (⟨none, .store 60 (.tmp 4) (.tmp 10), _, _, _, _⟩ :: _) _ _); refine wpList_store_row rfl 60 (.tmp 4) (.tmp 10) rfl w.heap.size X rfl rfl 60 _ (heap_new _ _ _ (by simp)) HSZ.out (by rw [HCS.out]; rfl) HONE.out ?_))
  generalize hW2 : (World.setRow _ _ _) = W2
  have b2 : Below w.heap.size w W2 := by rw [← hW2]; exact below_setRow _ _ ((Below.refl _ _).alloc (Nat.le_refl _) _) (by omega)
  have c2 : W2.heap[w.heap.size]? = some (.cells X 60 (0, 0)) := by rw [← hW2]; exact setRow_heap _ _ _ _ _ _ (heap_new _ _ _ (by simp))
  have hcg : W2.heap[g]? = some (.cells X 60 (0, 0)) := below_heap b2 HC.out hg
  have q8 : W2.cell? ⟨g, 8, none⟩ = some lv := by rw [Joins.cell_of_block hcg, ← HX.out]; exact hash_left _ HS.out _ _
  have hlt2 : w.heap.size < W2.heap.size := (Array.getElem?_eq_some_iff.1 c2).1
  have hrl := restL_len l
  have CL := Lib.hid (clone_any (restL l) lv W2 (hlv.out.below b2) (by omega))
  have B2 := Lib.hid b2
  have C2 := Lib.hid c2
  clear hW2 b2 c2 HC HSZ HCS HONE hlv hcg IS hrl
  simp only [Act.put]
  go_wp2_with fail
  refine CL.out.mono ?_
  rintro e w4 ⟨v5, rfl, hown5, hb5⟩
  have h5 : EqN w4 (restL l) v5 := EqN.own hown5
  have hc5 := keepH hb5 C2.out
  have hap5 : ∀ (ad : Addr) (x : Int), w4.cell? ad = some (.int .u8 x) → ad.block ≠ w.heap.size := fun a x hx => by
    obtain ⟨a', k', c', e'⟩ := HLV.out
    have h := hc5
    rw [← HX.out, e'] at h
    exact byte_apart HS.out h hx
  have hbe : Bes w.heap.size w4 (w4.setCell ⟨w.heap.size, 8, none⟩ v5) := (Bes.refl w.heap.size w4).setCell 8 _
  have H5 := Lib.hid (h5.bes hbe hap5)
  have hb4 := B2.out.trans (hb5.mono (by omega))
  have HB5 := Lib.hid (show Below w.heap.size w (w4.setCell ⟨w.heap.size, 8, none⟩ v5) from hb4.trans (hbe.to_below (Nat.le_refl _) hb4.size))
  have q8' : w4.cell? ⟨w.heap.size, 8, none⟩ = some lv := by rw [Joins.cell_of_block hc5, ← HX.out]; exact hash_left _ HS.out _ _
  have f8 := fr_of hc5 8
  have HC5 := Lib.hid (heap_setCell hc5 8 v5)
  obtain ⟨A5, r5, c5, rfl⟩ : ∃ a k c, v5 = .slice a k c := by obtain ⟨a, c, e, _⟩ := h5; exact ⟨a, _, c, e⟩
  clear CL hown5 hb5 h5 hc5 hap5 hbe B2 C2 q8 hb4
  go_wp2
  refine bodyPost_ret (v := .tuple #[.pointer (some ⟨w.heap.size, 0, none⟩), .int .i64 0]) (by simp [results, Try.results43, asAddr, Act.put]) rfl ⟨rfl, ?_, HB5.out⟩
  have := HC5.out
  rw [← HX.out, hash_setl _ HS.out] at this
  exact ⟨_, this, H5.out⟩
end Go.Proofs.Ytjaakhjfpigdfaa
