import Derived.Test.YtebmnfffmpiceaaA
/-! Size. -/
namespace Go.Proofs.Ytebmnfffmpiceaa
open Go.RowKit
set_option linter.unusedVariables false
set_option linter.unusedSimpArgs false
/-- A row of tokens as it is read. -/
def RdT (w : World) (A : Option Addr) (l : List Tok) : Prop :=
  l.length ≤ 9223372036854775807 ∧ ∀ j (h : j < l.length), ∃ ad, A = some ad ∧ w.cell? (ad.add (j * 3)) = some (.int .i64 l[j].1) ∧ w.cell? ⟨(ad.add (j * 3)).block, (ad.add (j * 3)).off + 1, none⟩ = some (.int .i64 l[j].2.1) ∧ w.cell? ⟨(ad.add (j * 3)).block, (ad.add (j * 3)).off + 2, none⟩ = some (.int .u8 l[j].2.2.toNat)
theorem RdT.below {w w' : World} {A : Option Addr} {l : List Tok} (h : RdT w A l) (hb : Below w.heap.size w w') : RdT w' A l :=
  ⟨h.1, fun j hj => by
    obtain ⟨ad, e, h0, h1, h2⟩ := h.2 j hj
    exact ⟨ad, e, (hb.cell (World.block_lt_of_cell? w _ h0)).trans h0, (hb.cell (World.block_lt_of_cell? w _ h1)).trans h1, (hb.cell (World.block_lt_of_cell? w _ h2)).trans h2⟩⟩
/-- All of the first k may be. -/
def OkTo (l : List Tok) (k : Nat) : Prop := ∀ j (h : j < l.length), j < k → okT l[j]
theorem OkTo.next {l : List Tok} {k : Nat} (h : OkTo l k) (hk : k < l.length) (ho : okT l[k]) : OkTo l (k + 1) := fun j hj hjk => by
  rcases Nat.eq_or_lt_of_le (Nat.le_of_lt_succ hjk) with rfl | h'
  · exact ho
  · exact h j hj h'
theorem OkTo.all {l : List Tok} {k : Nat} (h : OkTo l k) (hk : l.length ≤ k) : allOk l = true := by
  rw [allOk_iff]
  intro t ht
  obtain ⟨j, hj, rfl⟩ := List.getElem_of_mem ht
  exact h j hj (by omega)
theorem size_bad {l : List Tok} {k : Nat} (hk : k < l.length) (h : ¬ okT l[k]) : sizeT l = (0, 60) := by
  unfold sizeT
  rw [if_neg]
  rw [allOk_iff]
  intro h'
  exact h (h' _ (List.getElem_mem hk))
theorem size_long {l : List Tok} (h : allOk l = true) (k : Nat) (hs : 65536 < sumT (l.take k)) : sizeT l = (0, 2) := by
  have := sumT_le l ((allOk_iff l).1 h) k
  unfold sizeT
  rw [if_pos h, if_pos (by omega)]
theorem size_good {l : List Tok} (h : allOk l = true) (hs : sumT l ≤ 65536) : sizeT l = (sumT l, 0) := by
  unfold sizeT
  rw [if_pos h, if_neg (by omega)]
set_option maxRecDepth 100000 in
set_option maxHeartbeats 2000000 in
theorem size_any (l : List Tok) (A : Option Addr) (cap : Nat) (w : World) (hr : RdT w A l) (hl : l.length ≤ cap) (hs : l.length ≤ 400) :
    Calls Try.prog 21 #[.slice A l.length cap] w fun e w' => e = .returned (.tuple #[.int .i64 (sizeT l).1, .int .i64 (sizeT l).2]) ∧ Below w.heap.size w w' := by
  have Hr := Lib.hid hr
  clear hr
  obtain ⟨T, hT⟩ : ∃ T, sizeT l = T := ⟨_, rfl⟩
  rw [hT]
  have HT := Lib.hid hT
  clear hT
  go_enter Try.func21, Try.ntmps21
  go_wp2
  go_loopw [11] (fun i wr => ∃ k : Nat, k ≤ l.length ∧ i = .int .i64 k ∧ OkTo l k ∧ Below w.heap.size w wr) (fun i _ => l.length - (intOf i).toNat)
  case atStart => exact ⟨0, Nat.zero_le _, rfl, fun j _ h => by omega, Below.refl _ _⟩
  case round =>
    obtain ⟨k, hk, rfl, hok, hbel⟩ := hrel
    have hsw := hbel.size
    by_cases hlt : k < l.length
    · obtain ⟨ad, rfl, c0, c1, c2⟩ := (Hr.out.below hbel).2 k hlt
      have Hok := Lib.hid hok
      clear hok
      have hbad := @size_bad l k hlt
      have hnext := fun h => OkTo.next (k := k) Hok.out hlt h
      obtain ⟨⟨d, n, x⟩, ht⟩ : ∃ t, l[k] = t := ⟨_, rfl⟩
      rw [ht] at c0 c1 c2 hbad hnext
      have Hbad := Lib.hid hbad
      have Hnext := Lib.hid hnext
      clear ht hbad hnext
      have b2 : Below w.heap.size w ((wr.alloc (tO d n x)).alloc (tO d n x)) := (hbel.alloc hsw _).alloc (by simp; omega) _
      by_cases ho : okT (d, n, x)
      · have HC := Lib.hid (show checkT (d, n, x) = 0 by rw [checkT, if_pos ho])
        have Ho := Lib.hid ho
        clear ho
        go_wp2_with (go_at_call 23; refine (check_any d n x _).mono ?_; rintro e w' ⟨rfl, rfl⟩; rw [HC.out])
        go_roundw
        case rel => exact ⟨k + 1, by omega, by go_num, Hnext.out Ho.out, b2⟩
        case measure => simp [intOf]; omega
      · have HC := Lib.hid (show checkT (d, n, x) = 60 by rw [checkT, if_neg ho])
        have Ho := Lib.hid ho
        clear ho
        go_wp2_with (go_at_call 23; refine (check_any d n x _).mono ?_; rintro e w' ⟨rfl, rfl⟩; rw [HC.out])
        go_ret2
        have e := HT.out
        rw [Hbad.out Ho.out] at e
        subst e
        exact ⟨rfl, b2⟩
    · have Hall := Lib.hid (hok.all (by omega))
      clear hok
      obtain ⟨wo, hwo⟩ : ∃ wo : World, wo = wr := ⟨_, rfl⟩
      subst hwo
      go_wp2
      go_loopw [6, 21] (fun s i wr => ∃ k : Nat, k ≤ l.length ∧ i = .int .i64 k ∧ s = .int .i64 (sumT (l.take k)) ∧ sumT (l.take k) ≤ 65536 ∧ Below w.heap.size w wr) (fun _ i _ => l.length - (intOf i).toNat)
      case atStart => exact ⟨0, Nat.zero_le _, rfl, rfl, by simp [sumT], hbel⟩
      case round =>
        obtain ⟨k, hk, rfl, rfl, hsum, hbel⟩ := hrel
        have hsw := hbel.size
        have hsl := sumT_le l ((allOk_iff l).1 Hall.out) k
        by_cases hlt : k < l.length
        · obtain ⟨ad, rfl, c0, c1, c2⟩ := (Hr.out.below hbel).2 k hlt
          have hsn := sumT_snoc l k hlt
          have ho := ok_len ((allOk_iff l).1 Hall.out _ (List.getElem_mem hlt))
          have hlong := size_long Hall.out (k + 1)
          obtain ⟨⟨d, n, x⟩, ht⟩ : ∃ t, l[k] = t := ⟨_, rfl⟩
          rw [ht] at c0 c1 c2 hsn ho
          simp only at hsn ho
          rw [hsn] at hlong
          have Hsn := Lib.hid hsn
          have Hlong := Lib.hid hlong
          clear ht hsn hlong
          generalize sumT (l.take k) = S at *
          obtain ⟨o1, o2, o3⟩ := ho
          by_cases hbig : 65536 < S + n
          · go_wp2
            go_ret2
            have e := HT.out
            rw [Hlong.out hbig] at e
            subst e
            exact ⟨rfl, hbel.alloc hsw _⟩
          · go_wp2
            go_roundw
            case rel => exact ⟨k + 1, by omega, by go_num, by rw [Hsn.out], by rw [Hsn.out]; omega, hbel.alloc hsw _⟩
            case measure => simp [intOf]; omega
        · have e1 : l.take k = l := List.take_of_length_le (by omega)
          have hsum' : sumT l ≤ 65536 := by rw [e1] at hsum; exact hsum
          have hsl' : 0 ≤ sumT l := by rw [e1] at hsl; exact hsl.1
          rw [e1]
          have e := HT.out
          rw [size_good Hall.out hsum'] at e
          subst e
          clear e1 hsum hsl
          go_wp2
          go_ret2
          exact ⟨rfl, hbel⟩
set_option maxRecDepth 100000 in
set_option maxHeartbeats 2000000 in
theorem rsize_any (l : List Tok) (A : Option Addr) (cap : Nat) (w : World) (hr : RdT w A l) (hl : l.length ≤ cap) (hs : l.length ≤ 400) :
    Calls Try.prog 22 #[.slice A l.length cap] w fun e w' => e = .returned (.tuple #[.int .i64 (sizeT l).1, .int .i64 (sizeT l).2]) ∧ Below w.heap.size w w' := by
  have Hr := Lib.hid hr
  clear hr
  obtain ⟨T, hT⟩ : ∃ T, sizeT l = T := ⟨_, rfl⟩
  rw [hT]
  have HT := Lib.hid hT
  clear hT
  go_enter Try.func22, Try.ntmps22
  go_wp2
  go_loopw [4] (fun i wr => ∃ k : Nat, k ≤ l.length ∧ i = .int .i64 k ∧ OkTo l k ∧ Below w.heap.size w wr) (fun i _ => l.length - (intOf i).toNat)
  case atStart => exact ⟨0, Nat.zero_le _, rfl, fun j _ h => by omega, Below.refl _ _⟩
  case round =>
    obtain ⟨k, hk, rfl, hok, hbel⟩ := hrel
    have hsw := hbel.size
    by_cases hlt : k < l.length
    · obtain ⟨ad, rfl, c0, c1, c2⟩ := (Hr.out.below hbel).2 k hlt
      have Hok := Lib.hid hok
      clear hok
      have hbad := @size_bad l k hlt
      have hnext := fun h => OkTo.next (k := k) Hok.out hlt h
      obtain ⟨⟨d, n, x⟩, ht⟩ : ∃ t, l[k] = t := ⟨_, rfl⟩
      rw [ht] at c0 c1 c2 hbad hnext
      have Hbad := Lib.hid hbad
      have Hnext := Lib.hid hnext
      clear ht hbad hnext
      have b2 : Below w.heap.size w (wr.alloc (tO d n x)) := hbel.alloc hsw _
      by_cases ho : okT (d, n, x)
      · have HC := Lib.hid (show checkT (d, n, x) = 0 by rw [checkT, if_pos ho])
        have Ho := Lib.hid ho
        clear ho
        go_wp2_with (go_at_call 18; refine (rcheck_any d n x _).mono ?_; rintro e w' ⟨rfl, rfl⟩; rw [HC.out])
        go_roundw
        case rel => exact ⟨k + 1, by omega, by go_num, Hnext.out Ho.out, b2⟩
        case measure => simp [intOf]; omega
      · have HC := Lib.hid (show checkT (d, n, x) = 60 by rw [checkT, if_neg ho])
        have Ho := Lib.hid ho
        clear ho
        go_wp2_with (go_at_call 18; refine (rcheck_any d n x _).mono ?_; rintro e w' ⟨rfl, rfl⟩; rw [HC.out])
        go_ret2
        have e := HT.out
        rw [Hbad.out Ho.out] at e
        subst e
        exact ⟨rfl, b2⟩
    · have Hall := Lib.hid (hok.all (by omega))
      clear hok
      obtain ⟨wo, hwo⟩ : ∃ wo : World, wo = wr := ⟨_, rfl⟩
      subst hwo
      go_wp2
      go_loopw [5, 6] (fun s i wr => ∃ k : Nat, k ≤ l.length ∧ i = .int .i64 k ∧ s = .int .i64 (sumT (l.take k)) ∧ wr = wo) (fun _ i _ => l.length - (intOf i).toNat)
      case atStart => exact ⟨0, Nat.zero_le _, rfl, rfl, rfl⟩
      case round =>
        obtain ⟨k, hk, rfl, rfl, rfl⟩ := hrel
        have hsl := sumT_le l ((allOk_iff l).1 Hall.out) k
        by_cases hbig : 65536 < sumT (l.take k)
        · have e := HT.out
          rw [size_long Hall.out k hbig] at e
          subst e
          generalize sumT (l.take k) = S at *
          by_cases hlt : k < l.length
          all_goals
            go_wp2
            go_ret2
            exact ⟨rfl, hbel⟩
        · by_cases hlt : k < l.length
          · obtain ⟨ad, rfl, c0, c1, c2⟩ := (Hr.out.below hbel).2 k hlt
            have hsn := sumT_snoc l k hlt
            have ho := ok_len ((allOk_iff l).1 Hall.out _ (List.getElem_mem hlt))
            obtain ⟨⟨d, n, x⟩, ht⟩ : ∃ t, l[k] = t := ⟨_, rfl⟩
            rw [ht] at c0 c1 c2 hsn ho
            simp only at hsn ho
            have Hsn := Lib.hid hsn
            clear ht hsn
            generalize sumT (l.take k) = S at *
            obtain ⟨o1, o2, o3⟩ := ho
            go_wp2
            go_roundw
            case rel => exact ⟨k + 1, by omega, by go_num, by rw [Hsn.out], trivial⟩
            case measure => simp [intOf]; omega
          · have e1 : l.take k = l := List.take_of_length_le (by omega)
            have hsum' : sumT l ≤ 65536 := by rw [e1] at hbig; omega
            have hsl' : 0 ≤ sumT l := by rw [e1] at hsl; exact hsl.1
            rw [e1]
            have e := HT.out
            rw [size_good Hall.out hsum'] at e
            subst e
            clear e1 hbig hsl
            go_wp2
            go_ret2
            exact ⟨rfl, hbel⟩
end Go.Proofs.Ytebmnfffmpiceaa

