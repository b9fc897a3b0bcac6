import Derived.Test.YtinkcffkhbaleaaLF
/-! SearchFinds, where one is nil. -/
namespace Go.Proofs.Ytinkcffkhbaleaa
open Go.RowKit
set_option linter.unusedVariables false
set_option linter.unusedSimpArgs false
set_option maxRecDepth 100000 in
set_option maxHeartbeats 4000000 in
theorem finds_none (la : List (List (BitVec 8))) (A : Option Addr) (ca : Nat) (s : BitVec 16) (w : World) (ra : RdD w A la) (hla : la.length ≤ ca) :
    Calls Try.prog 7 #[.slice A la.length ca, .slice none 0 0, .int .u16 s.toNat] w fun e w' => e = .returned (.bool true) ∧ Below w.heap.size w w' := by
  have FA := fun w => fewd_any A la.length ca w hla ra.1
  have FB := fun w => fewd_any none 0 0 w (by omega) (by omega)
  rw [few_len] at FA
  simp only [Nat.min_zero, Nat.zero_min] at FB
  have la3 : (la.take 3000).length ≤ 3000 := by rw [List.length_take]; omega
  have ra' := ra.take 3000
  generalize la.take 3000 = xa at *
  replace FA := Lib.hid FA
  replace FB := Lib.hid FB
  clear ra hla
  obtain ⟨i0, hi, hz0, hz1, hz2⟩ := info_parts info47
  have hs := s.isLt
  generalize s.toNat = sn at *
  obtain ⟨T, hT, hTk⟩ := find_just xa [] 0 0 (by simp) (by simp) (by simp) la3 (by simp)
  have e0 : partB xa [] 0 0 = [] := rfl
  rw [e0] at hT
  have rnil : ∀ (w : World) B, RdD w B [] := fun w B => ⟨by simp, fun j hj => by simp at hj⟩
  have HF := fun w B cb ra => find_any xa [] A B ca cb w ra (rnil w B) la3 (by simp) T hT
  rw [hTk] at HF
  simp only [List.length_nil] at HF
  replace HF := Lib.hid HF
  clear hT hTk e0 rnil
  go_enter Try.func7, Try.ntmps7
  go_upto_region 4 with (first | (go_at_call 22; (with_reducible refine (FA.out _).mono ?_); rintro e w' ⟨rfl, rfl⟩) | (go_at_call 22; (with_reducible refine (FB.out _).mono ?_); rintro e w' ⟨rfl, rfl⟩) | (go_at_call 15; refine (awake_any _).mono ?_; rintro e w1 ⟨rfl, b1⟩) | (at_builtin; go_loud (refine wpList_append_own_none rfl (.tmp 15) (.tmp 17) 40 rfl w1.heap.size 47 i0 32 Try.underlying40 hi (.slice (some ⟨w1.heap.size, 0, none⟩) 0 0) 0 [] rfl (own_empty w1 47 32) rfl ?_)))
  have b2 : Below w1.heap.size w1 (w1.alloc (.cells #[] 47)) := (Below.refl _ _).alloc (Nat.le_refl _) _
  have bel : Below w.heap.size w (w1.alloc (.cells #[] 47)) := b1.trans (b2.mono b1.size)
  have ra2 : RdD (w1.alloc (.cells #[] 47)) A xa := (ra'.below b1).below b2
  clear b2 ra' b1 hi hz0 hz1 hz2
  have hm : (if 0 < xa.length then (0 : Int) else (xa.length : Int)) = 0 := by split <;> omega
  have hm2 : (if (0 : Int) < (xa.length : Int) then (0 : Int) else (xa.length : Int)) = 0 := by split <;> omega
  have hk : (sn : Int) % 1 = 0 := by omega
  generalize (w1.alloc (.cells #[] 47)) = W at *
  go_upto_region 5 with fail
  go_wp2
  go_loopw [8] (fun iv wr => iv = .int .i64 0 ∧ wr = W) (fun _ _ => 0)
  case atStart => exact ⟨rfl, rfl⟩
  case round =>
    obtain ⟨rfl, rfl⟩ := hrel
    have hsw := bel.size
    rcases Nat.eq_zero_or_pos xa.length with he | he
    · have c1 : ¬ ((0 : Int) < (xa.length : Int)) := by omega
      have He := Lib.hid he
      clear he
      go_wp2_with (go_at_call 23; refine (HF.out _ _ _ ra2).mono ?_; rintro e w3 ⟨rfl, b3⟩)
      go_ret
      exact ⟨by simp, bel.trans (b3.mono hsw)⟩
    · have c1 : (0 : Int) < (xa.length : Int) := by omega
      have He := Lib.hid he
      clear he
      go_wp2_with (go_at_call 23; refine (HF.out _ _ _ ra2).mono ?_; rintro e w3 ⟨rfl, b3⟩)
      go_ret
      exact ⟨by simp, bel.trans (b3.mono hsw)⟩
theorem finds_any (la : List (List (BitVec 8))) (A : Option Addr) (ca : Nat) (lb : List (List (BitVec 8))) (B : Option Addr) (cb : Nat) (s : BitVec 16) (w : World) (ra : RdD w A la) (hla : la.length ≤ ca) (_na : A = none → ca = 0) (rb : RdD w B lb) (hlb : lb.length ≤ cb) (nb : B = none → cb = 0) :
    Calls Try.prog 7 #[.slice A la.length ca, .slice B lb.length cb, .int .u16 s.toNat] w fun e w' => e = .returned (.bool true) ∧ Below w.heap.size w w' := by
  rcases B with _ | bd
  · obtain rfl := nb rfl
    obtain rfl : lb = [] := List.eq_nil_of_length_eq_zero (by omega)
    exact finds_none la A ca s w ra hla
  · exact finds_some la A ca lb bd cb s w ra hla rb hlb
end Go.Proofs.Ytinkcffkhbaleaa
