/-
  A region that draws its order, walked outside a round, may stand inside a round of a range over a function. Plain theorems over any program; no condition.
-/
import Derived.Test.YtiioiajcoiaalaaGreatDoorOrdT
import Derived.OrdersIn
import Derived.TacticsIn
import Derived.RangeFuncCalls
namespace Go.Proofs.YtiioiajcoiaalaaGreatDoor
open Go

section
variable {P : Program} {ops : Array Oper} {Q : Exit → Act → World → Prop} {md : Region.Mode} {n l : Nat}
theorem rowsIn_of {row : String} {args : Array Value} {w : World} {R : Value → World → Prop} (h : Rows P row args w R) : RowsIn (Fence.wide.inRound l) n P row args w R :=
  fun c cs _ => let ⟨v, w', r, s⟩ := h c cs; ⟨v, w', r, (stepsIn_wide (P := P)).2 s⟩
theorem opIn_of {o : Oper} {a : Act} {w : World} {K : Act → World → Prop} (hd : ∀ c, o.op ≠ .defer c) (h : o.wp P a w K Q) : o.wpIn (Fence.wide.inRound l) n P a w K Q := by
  unfold Oper.wpIn
  refine ⟨fun _ _ => trivial, ?_⟩
  rw [Oper.semAt_eq _ _ _ hd]
  unfold Oper.wp at h
  generalize (execOp a.eval o).run P w = r at *
  cases r with
  | ok x w' =>
    cases x <;> simp only [Oper.upon, Oper.uponIn] at h ⊢ <;>
      first
        | exact h
        | exact ⟨fun hc => (by have hc' : (none : Option Nat).isSome = true := hc; cases hc'), CallsIn.mono ((callsIn_wide.2 h).inRound l) (fun e _ he => by cases e <;> exact he)⟩
        | exact ⟨fun hc => (by have hc' : (none : Option Nat).isSome = true := hc; cases hc'), rowsIn_of h⟩
        | exact h.elim
  | halt x w' => cases x <;> simp only [Oper.upon, Oper.uponIn] at h ⊢ <;> exact h
def noDefer (ops : Array Oper) : Bool := ops.all fun o => match o.op with
  | .defer _ => false
  | _ => true
theorem noDefer_spec (h : noDefer ops = true) : ∀ (i : Nat) (o : Oper), ops[i]? = some o → ∀ c, o.op ≠ .defer c := by
  intro i o ho c hc
  unfold noDefer at h
  rw [Array.all_eq_true'] at h
  have := h o (Array.mem_of_getElem? ho)
  rw [hc] at this
  cases this
theorem anyIn_of (hd : noDefer ops = true) (hQ : ¬ LetsOut Q) : ∀ (k : Nat) (s : Array Bool) (a : Act) (w : World), wpAny P md ops Q k s a w → wpAnyIn (Fence.wide.inRound l) n P md ops Q k s a w := by
  have hop : ∀ (i : Nat) (a : Act) (w : World) (K : Act → World → Prop), wpOp P ops Q i K a w → wpOpIn (Fence.wide.inRound l) n P ops Q i K a w := fun i a w K h => by
    unfold wpOp at h
    unfold wpOpIn
    split
    · rename_i hn
      simpa [hn] using h
    · rename_i o ho
      simp only [ho] at h
      split
      · rename_i hw
        simp only [hw, if_true] at h
        exact opIn_of (noDefer_spec hd i o ho) (h.resolve_right fun e => hQ e.2)
      · rename_i hw
        simp only [hw] at h
        exact ⟨fun _ _ => trivial, h⟩
  intro k
  induction k with
  | zero => intro s a w h; exact h
  | succ k ih =>
    intro s a w h
    exact ⟨h.1, fun i hi => wpOpIn_mono (fun b x hx => ih _ b x hx) (hop i a w _ (h.2 i hi))⟩
/-- A region inside a round, by 'Held'. -/
theorem Held.beginR {id : Nat} {a : Act} {w : World} (S : World → Prop) (s : Nat) (hm : P.follows .mixedOrders = true) (hd : noDefer ops = true) (hQ : ¬ LetsOut Q)
    (h : Held P .any ops Q S s ops.size (Array.replicate ops.size false) a w.drew) : (Code.region id ops true).wpIn (Fence.wide.inRound l) n P Q a w :=
  wpIn_region_any hm (anyIn_of hd hQ _ _ _ _ (Held.any _ _ _ _ h))
end
end Go.Proofs.YtiioiajcoiaalaaGreatDoor
