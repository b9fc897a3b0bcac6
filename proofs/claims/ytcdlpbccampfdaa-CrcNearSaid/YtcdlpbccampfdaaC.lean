import Derived.Test.YtcdlpbccampfdaaB
import Derived.Lib.SlBytesConst
import Derived.Lib.SmallJoins
namespace Go.Proofs.Ytcdlpbccampfdaa
open Go.RowKit
open M
set_option linter.unusedVariables false
set_option linter.unusedSimpArgs false

theorem RdR.take {α : Type} {R : α → Value → Prop} {w : World} {A : Option Addr} {l : List α} (h : RdR R w A l) (n : Nat) : RdR R w A (l.take n) :=
  ⟨by have := h.1; have := List.length_take_le' n l; omega, fun j hj => by
    have hj' : j < l.length := by rw [List.length_take] at hj; omega
    obtain ⟨ad, v, e, hc, hr⟩ := h.2 j hj'
    exact ⟨ad, v, e, hc, by rw [List.getElem_take]; exact hr⟩⟩

theorem cut_any (l : List (BitVec 8)) (A : Option Addr) (c : Nat) (w : World) (hl : l.length ≤ c) (hm : l.length ≤ 9223372036854775807) :
    Calls Try.prog 9 #[.slice A l.length c] w fun e w' => e = .returned (.slice A (l.take 8192).length c) ∧ w = w' := by
  by_cases hlt : 8192 < l.length
  · have e : (l.take 8192).length = 8192 := by rw [List.length_take]; omega
    rw [e]
    go_enter Try.func9, Try.ntmps9
    go_wp2
    go_ret
    exact ⟨rfl, rfl⟩
  · have e : (l.take 8192).length = l.length := by rw [List.length_take]; omega
    rw [e]
    go_enter Try.func9, Try.ntmps9
    go_wp2
    go_ret
    exact ⟨rfl, rfl⟩

theorem cell_new (W : World) (C : Array Value) (e : TypeId) (m : Nat × Nat) (j : Nat) (v : Value) (h : C[j]? = some v) : (W.alloc (.cells C e m)).cell? ⟨W.heap.size, j, none⟩ = some v := by
  show (match (W.heap.push (.cells C e m))[W.heap.size]? with
    | some (.cells c _ _) => if (none : Option Nat).isSome then none else c[j]?
    | _ => none) = some v
  rw [Array.getElem?_push_size]
  simpa using h
theorem cell_old {W : World} (o : Obj) {a : Addr} {v : Value} (h : W.cell? a = some v) : (W.alloc o).cell? a = some v := Lib.cell?_alloc_marked o h
theorem RdR.new {α : Type} {R : α → Value → Prop} (W : World) (l : List α) (C : Array Value) (e : TypeId) (m : Nat × Nat) (hm : l.length ≤ 9223372036854775807)
    (h : ∀ j (hj : j < l.length), ∃ v, C[j]? = some v ∧ R l[j] v) : RdR R (W.alloc (.cells C e m)) (some ⟨W.heap.size, 0, none⟩) l :=
  ⟨hm, fun j hj => by
    obtain ⟨v, hv, hr⟩ := h j hj
    refine ⟨_, v, rfl, ?_, hr⟩
    have e0 : (⟨W.heap.size, 0, none⟩ : Addr).add j = ⟨W.heap.size, j, none⟩ := by unfold Addr.add; split <;> simp_all
    rw [e0]
    exact cell_new W C e m j v hv⟩
theorem RdR.alloc {α : Type} {R R' : α → Value → Prop} {w : World} {A : Option Addr} {l : List α} (h : RdR R w A l) (o : Obj) (hR : ∀ x v, R x v → R' x v) : RdR R' (w.alloc o) A l :=
  ⟨h.1, fun j hj => by
    obtain ⟨ad, v, e, hc, hr⟩ := h.2 j hj
    exact ⟨ad, v, e, cell_old o hc, hR _ _ hr⟩⟩
theorem RdB.alloc' {w : World} {A : Option Addr} {l : List (BitVec 8)} (h : RdB w A l) (o : Obj) : RdB (w.alloc o) A l := RdR.alloc h o fun _ _ h => h
theorem RdB.new' (W : World) (l : List (BitVec 8)) (C : Array Value) (e : TypeId) (m : Nat × Nat) (hm : l.length ≤ 9223372036854775807) (hC : C = (l.map fun x => Value.int .u8 (x.toNat : Int)).toArray) :
    RdB (W.alloc (.cells C e m)) (some ⟨W.heap.size, 0, none⟩) l :=
  RdR.new W l C e m hm fun j hj => ⟨_, by subst hC; simp [List.getElem?_eq_getElem hj], rfl⟩

theorem size_alloc (W : World) (o : Obj) : (W.alloc o).heap.size = W.heap.size + 1 := by show (W.heap.push o).size = _; simp
theorem RdB.newAt (W : World) (l : List (BitVec 8)) (C : Array Value) (e : TypeId) (m : Nat × Nat) (g : Nat) (hg : g = W.heap.size) (hm : l.length ≤ 9223372036854775807) (hC : C = (l.map fun x => Value.int .u8 (x.toNat : Int)).toArray) :
    RdB (W.alloc (.cells C e m)) (some ⟨g, 0, none⟩) l := by subst hg; exact RdB.new' W l C e m hm hC
theorem EqP.alloc {W : World} (o : Obj) (p : List (BitVec 8)) (v : Value) (h : EqP W p v) : EqP (W.alloc o) p v := by
  obtain ⟨A, c, e, hl, hr⟩ := h
  exact ⟨A, c, e, hl, hr.alloc' o⟩
theorem RdP.two (W : World) (p q : List (BitVec 8)) (A B : Option Addr) (np nq c d : Nat) (e : TypeId) (m : Nat × Nat) (g : Nat) (hg : g = W.heap.size) (h1 : RdB W A p) (h2 : RdB W B q) (hp : np = p.length) (hq : nq = q.length) (hc : np ≤ c) (hd : nq ≤ d) :
    RdP (W.alloc (.cells #[.slice A np c, .slice B nq d] e m)) (some ⟨g, 0, none⟩) [p, q] := by
  subst hg hp hq
  refine RdR.new W [p, q] _ e m (by simp) fun j hj => ?_
  match j, hj with
  | 0, _ => exact ⟨_, rfl, A, c, rfl, hc, h1.alloc' _⟩
  | 1, _ => exact ⟨_, rfl, B, d, rfl, hd, h2.alloc' _⟩
theorem RdP.one (W : World) (p : List (BitVec 8)) (A : Option Addr) (np c : Nat) (e : TypeId) (m : Nat × Nat) (g : Nat) (hg : g = W.heap.size) (h1 : RdB W A p) (hp : np = p.length) (hc : np ≤ c) :
    RdP (W.alloc (.cells #[.slice A np c] e m)) (some ⟨g, 0, none⟩) [p] := by
  subst hg hp
  refine RdR.new W [p] _ e m (by simp) fun j hj => ?_
  match j, hj with
  | 0, _ => exact ⟨_, rfl, A, c, rfl, hc, h1.alloc' _⟩
theorem RdP.nil (W : World) (A : Option Addr) : RdP W A [] := ⟨by simp, fun j hj => by simp at hj⟩

theorem nine : ((sums 0#32 [[49#8, 50#8, 51#8], [52#8, 53#8, 54#8, 55#8, 56#8, 57#8]]).toNat : Int) = 3808858755 := by decide +kernel
theorem awake_any (w : World) : Calls Try.prog 16 #[] w fun e w' => e = .returned (.bool true) ∧ Below w.heap.size w w' := by
  have kc := fun (w : World) (C : Array Value) (n c g : Nat) (hg : g = w.heap.size) => Joins.run_convert_bytes_const_at (P := Try.prog) w 23 5 C n c g hg Try.underlying23 Try.underlying5
  obtain ⟨N, hN⟩ : ∃ N, ((sums 0#32 [[49#8, 50#8, 51#8], [52#8, 53#8, 54#8, 55#8, 56#8, 57#8]]).toNat : Int) = N := ⟨_, rfl⟩
  have hz : (N == 3808858755) = true := by rw [← hN, nine]; rfl
  have HN := Lib.hid hN
  clear hN
  go_enter Try.func16, Try.ntmps16
  go_wp2_with fail
  refine (of_any [[49#8, 50#8, 51#8], [52#8, 53#8, 54#8, 55#8, 56#8, 57#8]] _ _ _ ?_).mono ?_
  · exact RdP.two _ _ _ _ _ _ _ _ _ _ _ _ (by simp [size_alloc]) (RdB.alloc' (RdB.newAt _ _ _ _ _ _ rfl (by simp) rfl) _) (RdB.newAt _ _ _ _ _ _ (by simp [size_alloc]) (by simp) rfl) rfl rfl (by decide) (by decide)
  rintro e w' ⟨rfl, rfl⟩
  rw [HN.out]
  go_wp2
  go_ret
  exact ⟨rfl, ((((Below.refl _ _).alloc (Nat.le_refl _) _).alloc (by simp) _).alloc (by simp; omega) _)⟩
end Go.Proofs.Ytcdlpbccampfdaa
