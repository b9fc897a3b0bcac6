import Derived.Test.YtinkcffkhbaleaaZ
/-! SearchRows. -/
namespace Go.Proofs.Ytinkcffkhbaleaa
open Go.RowKit
set_option linter.unusedVariables false
set_option linter.unusedSimpArgs false
theorem few_len (l : List (List (BitVec 8))) : min 3000 l.length = (l.take 3000).length := by rw [List.length_take]
set_option maxRecDepth 100000 in
set_option maxHeartbeats 4000000 in
theorem rows_any (la : List (List (BitVec 8))) (A : Option Addr) (ca : Nat) (lb : List (List (BitVec 8))) (B : Option Addr) (cb : Nat) (w : World) (ra : RdD w A la) (hla : la.length ≤ ca) (_na : A = none → ca = 0) (rb : RdD w B lb) (hlb : lb.length ≤ cb) (_nb : B = none → cb = 0) :
    Calls Try.prog 6 #[.slice A la.length ca, .slice B lb.length cb] w fun e w' => e = .returned (.bool true) ∧ Below w.heap.size w w' := by
  have FA := fewd_any A la.length ca w hla ra.1
  have FB := fewd_any B lb.length cb w hlb rb.1
  rw [few_len] at FA FB
  have la3 : (la.take 3000).length ≤ 3000 := by rw [List.length_take]; omega
  have lb3 : (lb.take 3000).length ≤ 3000 := by rw [List.length_take]; omega
  have ra' := ra.take 3000
  have rb' := rb.take 3000
  generalize la.take 3000 = xa at *
  generalize lb.take 3000 = xb at *
  obtain ⟨T, hT⟩ := ends_some (alD xa xb) _ (0, begHi xa.length xb.length, 0) (Nat.le_refl _)
  have HF := fun w ra rb => find_any xa xb A B ca cb w ra rb la3 lb3 T hT
  have HR := fun w ra rb => rfind_any xa xb A B ca cb w ra rb la3 lb3 T hT
  replace HF := Lib.hid HF
  replace HR := Lib.hid HR
  replace FA := Lib.hid FA
  replace FB := Lib.hid FB
  clear hT la3 lb3 ra rb hla hlb _na _nb
  go_enter Try.func6, Try.ntmps6
  go_wp2_with (first | (go_at_call 22; (with_reducible refine FA.out.mono ?_); rintro e w' ⟨rfl, rfl⟩) | (go_at_call 22; (with_reducible refine FB.out.mono ?_); rintro e w' ⟨rfl, rfl⟩) | (go_at_call 23; refine (HF.out _ ra' rb').mono ?_; rintro e w1 ⟨rfl, b1⟩) | (go_at_call 24; refine (HR.out _ (ra'.below b1) (rb'.below b1)).mono ?_; rintro e w2 ⟨rfl, b2⟩) | (go_at_call 15; refine (awake_any _).mono ?_; rintro e w3 ⟨rfl, b3⟩))
  go_ret
  have s1 := b1.size
  have s2 := b2.size
  exact ⟨rfl, Below.trans b1 (Below.trans (b2.mono s1) (b3.mono (by omega)))⟩
end Go.Proofs.Ytinkcffkhbaleaa
