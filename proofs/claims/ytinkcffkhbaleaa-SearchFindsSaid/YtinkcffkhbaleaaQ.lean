import Derived.Test.YtinkcffkhbaleaaL
/-! The iterator over the questions. -/
namespace Go.Proofs.Ytinkcffkhbaleaa
open Go.RowKit Go.Shelf
attribute [local go_sem] Oper.semAt_some wide_fn
set_option linter.unusedVariables false
set_option linter.unusedSimpArgs false
theorem questions_any (p : Option Addr) (w : World) : Calls Try.prog 28 #[.pointer p] w fun e w' => e = .returned (.func (.func 29) #[] #[.pointer (some ⟨w.heap.size, 0, none⟩)]) ∧ w.alloc (.cells #[.pointer p] 54) = w' := by
  go_enter Try.func28, Try.ntmps28
  go_wp2
  go_ret
  exact ⟨rfl, rfl⟩
/-- How many questions there may still be, read off the world. -/
def leftW (g : Nat) (W : World) : Nat := mostN (intOf ((W.cell? ⟨g, 1, none⟩).getD undef) - intOf ((W.cell? ⟨g, 0, none⟩).getD undef)).toNat
set_option maxRecDepth 100000 in
set_option maxHeartbeats 4000000 in
theorem iter_any (n : Nat) (hn : 1 ≤ n) (bx g : Nat) (al : Int → Bool) (I : Int × Int × Nat → World → Prop)
    (hI : ∀ s W, I s W → W.cell? ⟨bx, 0, none⟩ = some (.pointer (some ⟨g, 0, none⟩)) ∧ W.cell? ⟨g, 0, none⟩ = some (.int .i64 s.1) ∧ W.cell? ⟨g, 1, none⟩ = some (.int .i64 s.2.1)) (s0 : Int × Int × Nat) :
    Iterates Try.prog n 29 #[.pointer (some ⟨bx, 0, none⟩)] (fun q : Int => #[.int .i64 q]) I (fun s => askS s.1 s.2.1) (stepT al) (fun W W' => Below W.heap.size W W') s0 := by
  intro l J Jx W hJI hJS hXS hY h0
  have hf16 : Fence.wide.fn 16 := trivial
  have hdp : Fence.wide.depth = none := rfl
  refine callsIn_of_wp Try.func29 rfl trivial ?_ rfl
  simp only [Try.ntmps29, List.size_toArray, List.length_cons, List.length_nil, Nat.reduceAdd, Nat.reduceSub, Array.replicate_succ, Array.replicate_zero, List.push_toArray, List.append_toArray, List.nil_append, List.cons_append]
  gi_wp2
  gi_loopw [3] (fun _ wr => ∃ s, J s wr) (fun _ wr => leftW g wr)
  case atStart => exact ⟨s0, h0⟩
  case round =>
    obtain ⟨s, hJ⟩ := hrel
    obtain ⟨c0, c1, c2⟩ := hI s wr (hJI s wr hJ)
    have hlw : leftW g wr = leftT s := by unfold leftW leftT; rw [c1, c2]; rfl
    have HL := Lib.hid hlw
    clear hlw
    cases hq : askS s.1 s.2.1 with
    | none =>
      have Hm := Lib.hid (show askV (askS s.1 s.2.1) = .tuple #[.int .i64 0, .bool false] by rw [hq]; rfl)
      have hJ2 : J s ((wr.alloc (spanO s.1 s.2.1)).alloc (spanO s.1 s.2.1)) := hJS s _ _ hJ (((Below.refl _ _).alloc (Nat.le_refl _) _).alloc (by simp) _)
      have Hq := Lib.hid hq
      clear hq
      gi_wp2_with (gi_at_call 16; refine (callsIn_wide.2 (ask_any _ _ _)).mono ?_; rintro e w' ⟨rfl, rfl⟩; rw [Hm.out])
      refine bodyPost_ret (results_none rfl _ _ _) rfl ?_
      exact ⟨⟨_, rfl⟩, .inl ⟨s, Hq.out, hJ2⟩⟩
    | some q =>
      have Hm := Lib.hid (show askV (askS s.1 s.2.1) = .tuple #[.int .i64 q, .bool true] by rw [hq]; rfl)
      have hJ2 : J s ((wr.alloc (spanO s.1 s.2.1)).alloc (spanO s.1 s.2.1)) := hJS s _ _ hJ (((Below.refl _ _).alloc (Nat.le_refl _) _).alloc (by simp) _)
      obtain ⟨lo', hi', ht, hst, hok2, hm2⟩ := stepT_some (al := al) hq
      obtain ⟨fn, tmps, assign, body, hy, hR⟩ := hY s q _ hJ2 hq
      have Hq := Lib.hid (And.intro hq hm2)
      clear hq ht hst hok2 hm2
      gi_wp2_with (gi_at_call 16; refine (callsIn_wide.2 (ask_any _ _ _)).mono ?_; rintro e w' ⟨rfl, rfl⟩; rw [Hm.out])
      refine hR.mono ?_
      rintro e W3 (⟨rfl, hJ3⟩ | ⟨rfl, hJx3⟩)
      · gi_wp2
        go_roundw
        case rel => exact ⟨_, hJ3⟩
        case measure =>
          obtain ⟨_, d1, d2⟩ := hI _ W3 (hJI _ W3 hJ3)
          have e2 : leftW g W3 = leftT (stepT al s) := by unfold leftW leftT; rw [d1, d2]; rfl
          rw [HL.out, e2]
          have := Hq.out.2
          omega
      · gi_wp2
        refine bodyPost_ret (results_none rfl _ _ _) rfl ?_
        exact ⟨⟨_, rfl⟩, .inr ⟨s, hJx3⟩⟩
end Go.Proofs.Ytinkcffkhbaleaa
