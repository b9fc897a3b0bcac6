import Derived.Test.YtecaiaobbjddeaaH
import Derived.Laws.AppendOwnNone
/-! WordBack. -/
namespace Go.Proofs.Ytecaiaobbjddeaa
open Go.RowKit
set_option linter.unusedVariables false
set_option linter.unusedSimpArgs false

theorem vlist_len : ∀ (f y : Nat), (vlist f y).length ≤ f
  | 0, _ => by simp [vlist]
  | f + 1, y => by
    have := vlist_len f (y / 128)
    unfold vlist
    split
    · simp
    · simp; omega

theorem vlist_pos (f y : Nat) : 1 ≤ (vlist (f + 1) y).length := by
  unfold vlist
  split <;> simp
theorem bytesV_app (p q : List (BitVec 8)) : bytesV (p ++ q) = bytesV p ++ bytesV q := by simp [bytesV]

theorem below_dr {B : Nat} {a w : World} (h : Below B a w) (n : Nat) : Below B a (w.drewN n) := ⟨h.os, h.tape, h.output, h.size, h.block⟩
theorem bytes_own (x : BitVec 64) (n : Nat) (bits o : Int) (w : World) (hn : bits = 8 ∧ n = 1 ∨ bits = 16 ∧ n = 2 ∨ bits = 32 ∧ n = 4 ∨ bits = 64 ∧ n = 8) (ho : o = 1 ∨ o = 2) :
    Calls Try.prog 21 #[.int .u64 x.toNat, .int .i64 bits, .int .i64 o] w fun e w' => ∃ g, e = .returned (.tuple #[.slice (some ⟨g, 0, none⟩) n n, .int .i64 0]) ∧ RdB w' (some ⟨g, 0, none⟩) (wordBytes x n o) ∧ Below w.heap.size w w' := by
  refine (bytes_any x n bits o w hn ho).mono ?_
  rintro e w' ⟨rfl, rfl⟩
  refine ⟨_, rfl, ?_, (Below.refl _ _).alloc (Nat.le_refl _) _⟩
  exact RdR.new w (wordBytes x n o) _ 5 _ (by rw [length_wordBytes]; omega) (fun j hj => ⟨.int .u8 (((wordBytes x n o)[j]).toNat : Int), by simp [List.getElem?_eq_getElem hj], rfl⟩)
theorem append_take (p q : List (BitVec 8)) (n : Nat) (h : p.length = n) : (p ++ q).take n = p := by rw [← h]; simp

set_option maxRecDepth 100000 in
set_option maxHeartbeats 4000000 in
theorem back_some (x : BitVec 64) (y bits by' o : Int) (l : List (BitVec 8)) (ad : Addr) (cap : Nat) (w : World) (hy : -9223372036854775808 ≤ y ∧ y ≤ 9223372036854775807) (hbi : -9223372036854775808 ≤ bits ∧ bits ≤ 9223372036854775807)
    (hby : -9223372036854775808 ≤ by' ∧ by' ≤ 9223372036854775807) (ho : -9223372036854775808 ≤ o ∧ o ≤ 9223372036854775807) (hr : RdB w (some ad) l) (hl : l.length ≤ cap) :
    Calls Try.prog 8 #[.int .u64 x.toNat, .int .i64 y, .int .i64 bits, .int .i64 by', .int .i64 o, .slice (some ad) l.length cap] w fun e w' => e = .returned (.bool true) ∧ Below w.heap.size w w' := by
  have hx : x.toNat < 18446744073709551616 := x.isLt
  have hm := hr.1
  have hr2 := hr.take 400
  have hl2 : (l.take 400).length ≤ cap := by rw [List.length_take]; omega
  have hb400 : (l.take 400).length ≤ 400 := by rw [List.length_take]; omega
  obtain ⟨i0, hi, hz0, hz1, hz2⟩ := info_parts info5
  go_enter Try.func8, Try.ntmps8
  go_wp2_with fail
  refine (cut_any l _ cap w hl hm).mono ?_
  rintro e w' ⟨rfl, rfl⟩
  generalize l.take 400 = b at *
  clear hr hl hm
  go_wp2_with fail
  refine (varint_any x.toNat hx w).mono ?_
  rintro e w1 ⟨g1, cap1, rfl, own1, b1⟩
  have hv10 := vlist_len 10 x.toNat
  have hv1 := vlist_pos 9 x.toNat
  have hvb := varint_back x.toNat hx b
  generalize hV : vlist 10 x.toNat = V at *
  clear hV
  have hrv := RdB.own own1
  have hrb : RdB w1 (some ad) b := RdR.below hr2 b1 (fun _ _ h => h)
  have s1 := b1.size
  have HVB := Lib.hid hvb
  have HX := Lib.hid hx
  clear hvb hx hr2
  go_upto_region 4 with (first | (at_builtin; refine wpList_append_own _ rfl (.tmp 30) (.tmp 31) 33 rfl w1.heap.size 5 i0 (.int .u8 0) 1 1 Try.underlying33 hi hz0 hz1 hz2 rfl (by decide) _ _ _ rfl (own_empty w1 5 1) ⟨g1, 0, none⟩ V.length cap1 (bytesV V) rfl (by simp [bytesV]) (bytesV_cells (RdB.alloc' hrv _)) (bytesV_one V) (by unfold maxLen; omega) (by omega) (by simp) ?_; intro v2 w2 own2 grow2 _; have b2 : Below w1.heap.size w1 w2 := ((Below.refl _ _).alloc (Nat.le_refl _) _).grown grow2 (by simp) (own_base' (own_empty w1 5 1)); simp only [Nat.zero_add, List.nil_append] at own2; have hrb2 : RdB w2 (some ad) b := RdR.below hrb b2 (fun _ _ h => h)) | (at_builtin; refine wpList_append_own _ rfl (.tmp 32) (.tmp 33) 33 rfl w1.heap.size 5 i0 (.int .u8 0) 1 1 Try.underlying33 hi hz0 hz1 hz2 rfl (by decide) _ _ _ rfl own2 ad b.length cap (bytesV b) rfl (by simp [bytesV]) (bytesV_cells hrb2) (bytesV_one b) (by unfold maxLen; omega) (by omega) b2.size ?_; intro v3 w3 own3 grow3 _; have b3 : Below w1.heap.size w1 w3 := b2.grown grow3 b2.size (own_base' own2); rw [← bytesV_app] at own3; obtain ⟨g3, cap3, hv3⟩ := Joins.ownsRow_form own3 (by omega); rw [hv3] at own3 ⊢; have hr3 := RdB.own own3) | (go_at_call 17; refine (read_any (V ++ b) _ _ _ _ (by simp) hr3 (by rw [List.length_append]; exact own_cap own3)).mono ?_; rintro e w' ⟨rfl, rfl⟩; rw [HVB.out]; simp only [readV]))
  obtain ⟨z, z0, z1, hz1', hz2'⟩ := zig_back y hy.1 hy.2
  have Z1 := Lib.hid hz1'
  have Z2 := Lib.hid hz2'
  clear hz1' hz2'
  by_cases hw : bits = 8 ∨ bits = 16 ∨ bits = 32 ∨ bits = 64
  · have W1 := Lib.hid (show PWordTurns.salternref01_Width.f bits = some true by rcases hw with rfl | rfl | rfl | rfl <;> rfl)
    by_cases hoo : o = 1 ∨ o = 2
    · obtain ⟨n, hn⟩ : ∃ n : Nat, bits = 8 ∧ n = 1 ∨ bits = 16 ∧ n = 2 ∨ bits = 32 ∧ n = 4 ∨ bits = 64 ∧ n = 8 := by
        rcases hw with rfl | rfl | rfl | rfl
        · exact ⟨1, by omega⟩
        · exact ⟨2, by omega⟩
        · exact ⟨4, by omega⟩
        · exact ⟨8, by omega⟩
      have hn8 : n ≤ 8 := by omega
      have hn1 : 1 ≤ n := by omega
      have hbn : bits = ((8 * n : Nat) : Int) := by omega
      have hwd : Pure.Wd (8 * n) := by unfold Pure.Wd; omega
      obtain ⟨R, hR⟩ : ∃ R, by'.tmod 64 = R := ⟨_, rfl⟩
      have hR0 : -64 < R := by rw [← hR]; have := Int.lt_tmod_of_pos by' (show (0 : Int) < 64 by omega); omega
      have hR1 : R < 64 := by rw [← hR]; exact Int.tmod_lt_of_pos by' (by omega)
      obtain ⟨T, hT⟩ : ∃ T, x.toNat % 2 ^ (8 * n) = T := ⟨_, rfl⟩
      obtain ⟨Y, hY64, hYa, hYb⟩ := turn_back x.toNat (8 * n) R HX.out hwd hR0 hR1
      have hlow := Pure.low_at 200 x.toNat (8 * n) (by omega) HX.out hwd
      rw [hT] at hYb hlow
      rw [← hbn] at hYa hYb hlow
      have TA := Lib.hid hYa
      have TB := Lib.hid hYb
      have TL := Lib.hid hlow
      have HT := Lib.hid hT
      have Hn := Lib.hid hn
      have Ho := Lib.hid hoo
      have o1 : ((o != 1) && (o != 2)) = false := by rcases hoo with rfl | rfl <;> rfl
      have Hall := Lib.hid (And.intro hw hbn)
      clear hYa hYb hlow hT hn hoo hw hbn hwd o1
      rcases Ho.out with h1 | h1
      · have q1 : (o != 1) = false := by simp [h1]
        have Hh := Lib.hid h1
        clear h1
        go_wp2_with (first | (go_at_call 12; refine (PWordZigzags.word_Zigzag.calls y z _ Z1.out).mono ?_; rintro e w4 ⟨rfl, ⟨nd, rfl⟩⟩) | (go_at_call 14; refine (PWordZigzags.word_Unzigzag.calls z y _ Z2.out).mono ?_; rintro e w5 ⟨rfl, ⟨nd2, rfl⟩⟩) | (go_at_call 28; refine (PWordTurns.salternref01_Width.calls bits true _ W1.out).mono ?_; rintro e w6 ⟨rfl, ⟨nd3, rfl⟩⟩) | (go_at_call 21; refine (bytes_own x n bits o _ Hn.out Ho.out).mono ?_; rintro e w8 ⟨g8, rfl, hr8, b8⟩; have hrb8 : RdB w8 (some ad) b := RdR.below (RdR.below (RdR.below hrb b3 (fun _ _ h => h)) (below_dr (Below.refl _ _) _) (fun _ _ h => h)) b8 (fun _ _ h => h)) | (at_builtin; refine wpList_append_own _ rfl (.tmp 79) (.tmp 80) 33 rfl w8.heap.size 5 i0 (.int .u8 0) 1 1 Try.underlying33 hi hz0 hz1 hz2 rfl (by decide) _ _ _ rfl (own_empty w8 5 1) ⟨g8, 0, none⟩ n n (bytesV (wordBytes x n o)) rfl (by simp [bytesV, length_wordBytes]) (bytesV_cells (RdB.alloc' hr8 _)) (bytesV_one _) (by unfold maxLen; omega) (by omega) (by simp) ?_; intro v9 w9 own9 grow9 _; have b9 : Below w8.heap.size w8 w9 := ((Below.refl _ _).alloc (Nat.le_refl _) _).grown grow9 (by simp) (own_base' (own_empty w8 5 1)); simp only [Nat.zero_add, List.nil_append] at own9; have hrb9 : RdB w9 (some ad) b := RdR.below hrb8 b9 (fun _ _ h => h)) | (at_builtin; refine wpList_append_own _ rfl (.tmp 81) (.tmp 82) 33 rfl w8.heap.size 5 i0 (.int .u8 0) 1 1 Try.underlying33 hi hz0 hz1 hz2 rfl (by decide) _ _ _ rfl own9 ad b.length cap (bytesV b) rfl (by simp [bytesV]) (bytesV_cells hrb9) (bytesV_one b) (by unfold maxLen; omega) (by omega) b9.size ?_; intro v10 w10 own10 grow10 _; have b10 : Below w8.heap.size w8 w10 := b9.grown grow10 b9.size (own_base' own9); rw [← bytesV_app] at own10; obtain ⟨g10, cap10, hv10⟩ := Joins.ownsRow_form own10 (by omega); rw [hv10] at own10 ⊢; have hr10 := RdB.own own10) | (go_at_call 23; refine (word_back x n _ _ bits o (wordBytes x n o ++ b) _ _ (by simp [length_wordBytes]) hr10 (by rw [List.length_append, length_wordBytes]; exact own_cap own10) (append_take _ _ _ (length_wordBytes _ _ _)) Hn.out Ho.out).mono ?_; rintro e w11 ⟨rfl, rfl⟩; rw [HT.out]) | (go_at_call 9; (with_reducible refine (PWordTurns.word_Turn.calls x.toNat bits R Y 0 _ TA.out).mono ?_); rintro e w12 ⟨rfl, ⟨nd5, rfl⟩⟩) | (go_at_call 9; (with_reducible refine (PWordTurns.word_Turn.calls Y bits (-R) T 0 _ TB.out).mono ?_); rintro e w13 ⟨rfl, ⟨nd6, rfl⟩⟩) | (go_at_call 29; refine (PWordTurns.salternref01_Low.calls 200 x.toNat bits T _ TL.out).mono ?_; rintro e w14 ⟨rfl, ⟨nd7, rfl⟩⟩) | (go_at_call 11; refine (alive_any _).mono ?_; rintro e w7 ⟨rfl, b7⟩))
        go_ret
        have b13 := Below.trans b1 (b3.mono s1)
        have s3 : w.heap.size ≤ w3.heap.size := Nat.le_trans s1 b3.size
        have b18 : Below w.heap.size w w8 := Below.trans (below_dr b13 _) (b8.mono s3)
        have b110 := Below.trans b18 (b10.mono b18.size)
        refine ⟨rfl, Below.trans ?_ (b7.mono (Nat.le_trans b18.size b10.size))⟩
        repeat first | exact b110 | refine below_dr ?_ _
      · have q1 : (o != 1) = true := by simp [h1]
        have q2 : (o != 2) = false := by simp [h1]
        have Hh := Lib.hid h1
        clear h1
        go_wp2_with (first | (go_at_call 12; refine (PWordZigzags.word_Zigzag.calls y z _ Z1.out).mono ?_; rintro e w4 ⟨rfl, ⟨nd, rfl⟩⟩) | (go_at_call 14; refine (PWordZigzags.word_Unzigzag.calls z y _ Z2.out).mono ?_; rintro e w5 ⟨rfl, ⟨nd2, rfl⟩⟩) | (go_at_call 28; refine (PWordTurns.salternref01_Width.calls bits true _ W1.out).mono ?_; rintro e w6 ⟨rfl, ⟨nd3, rfl⟩⟩) | (go_at_call 21; refine (bytes_own x n bits o _ Hn.out Ho.out).mono ?_; rintro e w8 ⟨g8, rfl, hr8, b8⟩; have hrb8 : RdB w8 (some ad) b := RdR.below (RdR.below (RdR.below hrb b3 (fun _ _ h => h)) (below_dr (Below.refl _ _) _) (fun _ _ h => h)) b8 (fun _ _ h => h)) | (at_builtin; refine wpList_append_own _ rfl (.tmp 79) (.tmp 80) 33 rfl w8.heap.size 5 i0 (.int .u8 0) 1 1 Try.underlying33 hi hz0 hz1 hz2 rfl (by decide) _ _ _ rfl (own_empty w8 5 1) ⟨g8, 0, none⟩ n n (bytesV (wordBytes x n o)) rfl (by simp [bytesV, length_wordBytes]) (bytesV_cells (RdB.alloc' hr8 _)) (bytesV_one _) (by unfold maxLen; omega) (by omega) (by simp) ?_; intro v9 w9 own9 grow9 _; have b9 : Below w8.heap.size w8 w9 := ((Below.refl _ _).alloc (Nat.le_refl _) _).grown grow9 (by simp) (own_base' (own_empty w8 5 1)); simp only [Nat.zero_add, List.nil_append] at own9; have hrb9 : RdB w9 (some ad) b := RdR.below hrb8 b9 (fun _ _ h => h)) | (at_builtin; refine wpList_append_own _ rfl (.tmp 81) (.tmp 82) 33 rfl w8.heap.size 5 i0 (.int .u8 0) 1 1 Try.underlying33 hi hz0 hz1 hz2 rfl (by decide) _ _ _ rfl own9 ad b.length cap (bytesV b) rfl (by simp [bytesV]) (bytesV_cells hrb9) (bytesV_one b) (by unfold maxLen; omega) (by omega) b9.size ?_; intro v10 w10 own10 grow10 _; have b10 : Below w8.heap.size w8 w10 := b9.grown grow10 b9.size (own_base' own9); rw [← bytesV_app] at own10; obtain ⟨g10, cap10, hv10⟩ := Joins.ownsRow_form own10 (by omega); rw [hv10] at own10 ⊢; have hr10 := RdB.own own10) | (go_at_call 23; refine (word_back x n _ _ bits o (wordBytes x n o ++ b) _ _ (by simp [length_wordBytes]) hr10 (by rw [List.length_append, length_wordBytes]; exact own_cap own10) (append_take _ _ _ (length_wordBytes _ _ _)) Hn.out Ho.out).mono ?_; rintro e w11 ⟨rfl, rfl⟩; rw [HT.out]) | (go_at_call 9; (with_reducible refine (PWordTurns.word_Turn.calls x.toNat bits R Y 0 _ TA.out).mono ?_); rintro e w12 ⟨rfl, ⟨nd5, rfl⟩⟩) | (go_at_call 9; (with_reducible refine (PWordTurns.word_Turn.calls Y bits (-R) T 0 _ TB.out).mono ?_); rintro e w13 ⟨rfl, ⟨nd6, rfl⟩⟩) | (go_at_call 29; refine (PWordTurns.salternref01_Low.calls 200 x.toNat bits T _ TL.out).mono ?_; rintro e w14 ⟨rfl, ⟨nd7, rfl⟩⟩) | (go_at_call 11; refine (alive_any _).mono ?_; rintro e w7 ⟨rfl, b7⟩))
        go_ret
        have b13 := Below.trans b1 (b3.mono s1)
        have s3 : w.heap.size ≤ w3.heap.size := Nat.le_trans s1 b3.size
        have b18 : Below w.heap.size w w8 := Below.trans (below_dr b13 _) (b8.mono s3)
        have b110 := Below.trans b18 (b10.mono b18.size)
        refine ⟨rfl, Below.trans ?_ (b7.mono (Nat.le_trans b18.size b10.size))⟩
        repeat first | exact b110 | refine below_dr ?_ _
    · have o1 : (o != 1) = true := by simp; omega
      have o2 : (o != 2) = true := by simp; omega
      have Hw := Lib.hid (And.intro hw hoo)
      clear hw hoo
      go_wp2_with (first | (go_at_call 12; refine (PWordZigzags.word_Zigzag.calls y z _ Z1.out).mono ?_; rintro e w4 ⟨rfl, ⟨nd, rfl⟩⟩) | (go_at_call 14; refine (PWordZigzags.word_Unzigzag.calls z y _ Z2.out).mono ?_; rintro e w5 ⟨rfl, ⟨nd2, rfl⟩⟩) | (go_at_call 28; refine (PWordTurns.salternref01_Width.calls bits true _ W1.out).mono ?_; rintro e w6 ⟨rfl, ⟨nd3, rfl⟩⟩) | (go_at_call 11; refine (alive_any _).mono ?_; rintro e w7 ⟨rfl, b7⟩))
      go_ret
      have b13 := Below.trans b1 (b3.mono s1)
      refine ⟨rfl, Below.trans ?_ (b7.mono (Nat.le_trans s1 b3.size))⟩
      repeat first | exact b13 | refine below_dr ?_ _
  · have W1 := Lib.hid (show PWordTurns.salternref01_Width.f bits = some false by unfold PWordTurns.salternref01_Width.f; rw [if_neg (by omega), if_neg (by omega), if_neg (by omega)]; congr 1; simp; omega)
    have Hw := Lib.hid hw
    clear hw
    go_wp2_with (first | (go_at_call 12; refine (PWordZigzags.word_Zigzag.calls y z _ Z1.out).mono ?_; rintro e w4 ⟨rfl, ⟨nd, rfl⟩⟩) | (go_at_call 14; refine (PWordZigzags.word_Unzigzag.calls z y _ Z2.out).mono ?_; rintro e w5 ⟨rfl, ⟨nd2, rfl⟩⟩) | (go_at_call 28; refine (PWordTurns.salternref01_Width.calls bits false _ W1.out).mono ?_; rintro e w6 ⟨rfl, ⟨nd3, rfl⟩⟩) | (go_at_call 11; refine (alive_any _).mono ?_; rintro e w7 ⟨rfl, b7⟩))
    go_ret
    have b13 := Below.trans b1 (b3.mono s1)
    refine ⟨rfl, Below.trans ?_ (b7.mono (Nat.le_trans s1 b3.size))⟩
    repeat first | exact b13 | refine below_dr ?_ _
end Go.Proofs.Ytecaiaobbjddeaa
