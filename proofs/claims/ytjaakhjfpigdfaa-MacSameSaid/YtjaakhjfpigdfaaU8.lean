import Derived.Test.YtjaakhjfpigdfaaU7
/-! Write to a hash. -/
namespace Go.Proofs.Ytjaakhjfpigdfaa
open Go.RowKit
set_option linter.unusedVariables false
set_option linter.unusedSimpArgs false
set_option maxRecDepth 100000 in
theorem hwrite_any (g : Nat) (l b : By) (bv : Value) (w : World) (h : HashAt w g l) (hbv : EqN w b bv) (hlen : l.length + b.length ≤ 1099511627776) : Calls Try.prog 41 #[.pointer (some ⟨g, 0, none⟩), bv] w fun e w' => e = .returned (.int .i64 0) ∧ HashAt w' g (l ++ b) ∧ Bes g w w' := by
  have IS := Lib.hid (is_any g w h.made)
  have TK := Lib.hid (take_any g l b bv w h hbv (by omega))
  have q9 : w.cell? ⟨g, 9, none⟩ = some (.int .u64 (l.length : Int)) := by obtain ⟨lv, hc, _⟩ := h; rw [Joins.cell_of_block hc]; exact hash_n _ (stL_len l) _ _
  obtain ⟨A, c, rfl, hcl, hr, hn⟩ := hbv
  have hr1 := hr.1
  obtain ⟨n, hn1⟩ : ∃ n, l.length = n := ⟨_, rfl⟩
  obtain ⟨m, hm1⟩ : ∃ n, b.length = n := ⟨_, rfl⟩
  rw [hn1] at q9 hlen
  rw [hm1] at hlen hr1 hcl TK ⊢
  have hle : (m : Int) ≤ 1099511627776 - (n : Int) := by omega
  clear h hr hn hn1 hm1
  go_enter Try.func41, Try.ntmps41
  go_wp2_with (first | (go_at_call 84; refine IS.out.mono ?_; rintro e w2 ⟨rfl, rfl⟩) | (go_at_call 72; refine TK.out.mono ?_; rintro e w3 ⟨rfl, h3, b3⟩; have H3 := Lib.hid h3; have B3 := Lib.hid b3; clear h3 b3) | fail)
  go_ret
  exact ⟨rfl, H3.out, B3.out⟩
end Go.Proofs.Ytjaakhjfpigdfaa
