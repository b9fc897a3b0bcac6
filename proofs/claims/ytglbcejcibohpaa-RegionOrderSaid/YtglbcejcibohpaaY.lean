import Derived.Test.YtglbcejcibohpaaI
import Derived.Deep.RegionHeld3
/-! A region that draws its order, in a round of a range over a function: operation by operation, as outside of one. No program is named here. -/
namespace Go.Proofs.Ytglbcejcibohpaa
open Go.RowKit
set_option linter.unusedVariables false

def notDefer (o : Oper) : Bool := match o.op with
  | .defer _ => false
  | _ => true
theorem not_defer {o : Oper} (h : notDefer o = true) : ∀ c, o.op ≠ .defer c := by
  intro c hc
  unfold notDefer at h
  rw [hc] at h
  cases h
theorem rowsIn_of_rows {n : Nat} {P : Program} {row : String} {args : Array Value} {w : World} {R : Value → World → Prop} (h : Rows P row args w R) : RowsIn Fence.wide n P row args w R := by
  intro c cs _
  obtain ⟨v, w', hs, hr⟩ := h c cs
  exact ⟨v, w', hs, stepsIn_wide.2 hr⟩
theorem wpIn_of_wp_round {l n : Nat} {P : Program} {o : Oper} {a : Act} {w : World} {K : Act → World → Prop} {Q : Exit → Act → World → Prop} (hd : notDefer o = true) (h : o.wp P a w K Q) : o.wpIn (Fence.wide.inRound l) n P a w K Q := by
  refine ⟨fun _ _ => trivial, ?_⟩
  unfold Oper.wp at h
  show o.uponIn (Fence.wide.inRound l) n P a K Q ((o.semAt (some l) a.eval).run P w)
  rw [Oper.semAt_some l a.eval o (not_defer hd)]
  generalize (execOp a.eval o).run P w = r at *
  cases r with
  | ok x w' =>
    cases x <;> simp only [Oper.upon, Oper.uponIn] at h ⊢ <;>
      first
        | exact h
        | exact ⟨fun h => by simp [Fence.wide] at h, callsIn_wide.2 h⟩
        | exact ⟨fun h => by simp [Fence.wide] at h, rowsIn_of_rows h⟩
  | halt x w' => cases x <;> simp only [Oper.upon, Oper.uponIn] at h ⊢ <;> exact h
theorem wpOpIn_of_wpOp {l n : Nat} {P : Program} {ops : Array Oper} {Q : Exit → Act → World → Prop} (hd : ops.all notDefer = true) (hQ : ¬ LetsOut Q) {i : Nat} {K : Act → World → Prop} {a : Act} {w : World} (h : wpOp P ops Q i K a w) : wpOpIn (Fence.wide.inRound l) n P ops Q i K a w := by
  unfold wpOp at h
  unfold wpOpIn
  cases ho : ops[i]? with
  | none => rw [ho] at h; exact h
  | some o =>
    rw [ho] at h
    simp only at h ⊢
    split
    · rename_i hw
      rw [if_pos hw] at h
      rcases h with h | h
      · exact wpIn_of_wp_round ((Array.all_eq_true_iff_forall_mem.1 hd) o (Array.mem_of_getElem? ho)) h
      · exact absurd h.2 hQ
    · rename_i hw
      rw [if_neg hw] at h
      exact ⟨fun _ _ => trivial, h⟩
theorem wpAnyIn_of_wpAny {l n : Nat} {P : Program} {md : Region.Mode} {ops : Array Oper} {Q : Exit → Act → World → Prop} (hd : ops.all notDefer = true) (hQ : ¬ LetsOut Q) : ∀ (fuel : Nat) (listed : Array Bool) (a : Act) (w : World), wpAny P md ops Q fuel listed a w → wpAnyIn (Fence.wide.inRound l) n P md ops Q fuel listed a w
  | 0, _, _, _, h => h
  | fuel + 1, _, _, _, h => ⟨h.1, fun i hi => wpOpIn_of_wpOp hd hQ (wpOp_mono (fun a' w' h' => wpAnyIn_of_wpAny hd hQ fuel _ a' w' h') (h.2 i hi))⟩
theorem wpAnyH_of {P : Program} {md : Region.Mode} {ops : Array Oper} {Q : Exit → Act → World → Prop} {S S2 : World → Prop} (hS : ∀ w, S2 w → S w) : ∀ (fuel : Nat) (listed : Array Bool) (a : Act) (w : World), wpAnyH P md ops Q S2 fuel listed a w → wpAnyH P md ops Q S fuel listed a w
  | 0, _, _, _, h => h
  | fuel + 1, _, _, _, h => ⟨h.1, fun i hi => wpOp_mono (fun a' w' h' => ⟨hS _ h'.1, wpAnyH_of hS fuel _ a' w' h'.2⟩) (h.2 i hi)⟩
/-- THE LAW. -/
theorem wpIn_region_round {l n : Nat} {P : Program} {id : Nat} {ops : Array Oper} {Q : Exit → Act → World → Prop} {a : Act} {w : World} (S : World → Prop) (hm : P.follows .mixedOrders = true) (hd : ops.all notDefer = true) (hQ : ¬ LetsOut Q)
    (h : wpAnyH P .any ops Q S ops.size (Array.replicate ops.size false) a w.drew) : (Code.region id ops true).wpIn (Fence.wide.inRound l) n P Q a w :=
  wpIn_region_any hm (wpAnyIn_of_wpAny hd hQ _ _ _ _ (wpAny_of_held (S := S) _ _ _ _ h))
theorem wpIn_noPanic {F : Fence} {n : Nat} {P : Program} {c : Code} {Q : Exit → Act → World → Prop} {a : Act} {w : World} (h : c.wpIn F n P (NoPanic Q) a w) : c.wpIn F n P Q a w := Go.wpIn_mono h NoPanic.imp
theorem wide_fn (f : FuncId) : Fence.wide.fn f = True := rfl
theorem wide_depth : Fence.wide.depth = none := rfl
theorem exec_load {P : Program} {a : Act} {op : Oper} {w : World} (ty : TypeId) (x : Operand) (ho : op.op = .load ty x) (p : Value) (hx : a.eval x = p) (v : Value) (h : (Instr.loadAt ty p).run P w = .ok v w) : (execOp a.eval op).run P w = .ok (.value v) w := by
  unfold execOp
  simp only [ho, hx, Sem.run_bind, h, Result.andThen_ok, Sem.run_pure]

/-! ### Some cells that hold some values, and may be written -/
def Keeps (L : List (Addr × Value)) (W : World) : Prop := ∀ p ∈ L, W.cell? p.1 = some p.2 ∧ W.frozen? p.1 = false
theorem Keeps.lt {L : List (Addr × Value)} {W : World} (h : Keeps L W) {p : Addr × Value} (hp : p ∈ L) : p.1.block < W.heap.size := World.block_lt_of_cell? W _ (h p hp).1
theorem Keeps.below {L : List (Addr × Value)} {W W' : World} (h : Keeps L W) (hb : Below W.heap.size W W') : Keeps L W' := fun p hp =>
  ⟨(hb.cell (h.lt hp)).trans (h p hp).1, (hb.frozen (h.lt hp)).trans (h p hp).2⟩
theorem Keeps.alloc {L : List (Addr × Value)} {W : World} (h : Keeps L W) (o : Obj) : Keeps L (W.alloc o) := h.below ((Below.refl _ _).alloc (Nat.le_refl _) o)
theorem Keeps.drew {L : List (Addr × Value)} {W : World} (h : Keeps L W) : Keeps L W.drew := h
theorem Keeps.put {L : List (Addr × Value)} {W : World} (h : Keeps L W) (l : Nat) (hl : ∀ p ∈ L, p.1.block ≠ l) (o : Obj) : Keeps L (W.putObj l o) := fun p hp => by
  have e : (W.putObj l o).heap[p.1.block]? = W.heap[p.1.block]? := World.putObj_heap_other (hl p hp)
  exact ⟨(World.cell?_of_block e).trans (h p hp).1, (World.frozen?_of_block e).trans (h p hp).2⟩
theorem Keeps.setCell {L : List (Addr × Value)} {W : World} (h : Keeps L W) {a : Addr} (hl : ∀ p ∈ L, p.1.block ≠ a.block) (v : Value) : Keeps L (W.setCell a v) := fun p hp => by
  have e : (W.setCell a v).heap[p.1.block]? = W.heap[p.1.block]? := Below.heap_setCell _ _ _ _ (hl p hp)
  exact ⟨(World.cell?_of_block e).trans (h p hp).1, (World.frozen?_of_block e).trans (h p hp).2⟩
theorem below_put {B : Nat} {a W : World} (h : Below B a W) {l : Nat} (hl : B ≤ l) (o : Obj) : Below B a (W.putObj l o) :=
  h.trans ⟨rfl, rfl, rfl, by simp, fun k hk => World.putObj_heap_other (by omega)⟩
theorem others_of_below {W W' : World} (h : Below W.heap.size W W') : KeepsOthers W W' := ⟨h.size, fun k o hk _ => (h.block k (Array.getElem?_eq_some_iff.1 hk).1).trans hk⟩
end Go.Proofs.Ytglbcejcibohpaa
