/-
  'Below' with the draws counted: what a call may leave that only lays blocks and draws. Plain theorems over any program; no condition.
-/
import Derived.Test.YtiioiajcoiaalaaGreatDoorQbw
import Derived.Sort.Grow
namespace Go.Proofs.YtiioiajcoiaalaaGreatDoor
open Go.RowKit

structure GB (B : Nat) (w w' : World) : Prop where
  b : Below B w w'
  d : w.drawn ≤ w'.drawn
theorem GB.refl (B : Nat) (w : World) : GB B w w := ⟨Below.refl _ _, Nat.le_refl _⟩
theorem GB.trans {B : Nat} {a b c : World} (h : GB B a b) (k : GB B b c) : GB B a c := ⟨h.b.trans k.b, Nat.le_trans h.d k.d⟩
theorem GB.mono {B B' : Nat} {w w' : World} (h : GB B w w') (hB : B' ≤ B) : GB B' w w' := ⟨h.b.mono hB, h.d⟩
theorem GB.alloc {B : Nat} {a w : World} (h : GB B a w) (hB : B ≤ w.heap.size) (o : Obj) : GB B a (w.alloc o) := ⟨h.b.alloc hB o, h.d⟩
theorem GB.drew {B : Nat} {a w : World} (h : GB B a w) : GB B a w.drew := ⟨h.b.drew, Nat.le_succ_of_le h.d⟩
theorem GB.size {B : Nat} {w w' : World} (h : GB B w w') : w.heap.size ≤ w'.heap.size := h.b.size
theorem gstep {a b c : World} (h : GB a.heap.size a b) (k : GB b.heap.size b c) : GB a.heap.size a c := h.trans (k.mono h.size)
theorem gb_val {w : World} (cs : Array Value) (t : TypeId) : GB w.heap.size w (w.alloc (.cells cs t)) := (GB.refl _ _).alloc (Nat.le_refl _) _
theorem gb_two {w : World} (a b : Obj) : GB w.heap.size w ((w.alloc a).alloc b) := ((GB.refl _ _).alloc (Nat.le_refl _) _).alloc (by simp) _
theorem GB.grow {w w' : World} (h : GB w.heap.size w w') : ∃ q os, w' = Go.Sort.grow (w.drewN q) os := by
  refine ⟨w'.drawn - w.drawn, w'.heap.extract w.heap.size w'.heap.size, ?_⟩
  obtain ⟨⟨h1, h2, h3, h4, h5⟩, h6⟩ := h
  obtain ⟨heap', tape', drawn', os', output'⟩ := w'
  simp only at h1 h2 h3 h4 h5 h6
  subst h1 h2 h3
  unfold Go.Sort.grow World.drewN
  simp only [World.mk.injEq, and_true, true_and]
  refine ⟨?_, by omega⟩
  apply Array.ext
  · simp only [Array.size_append, Array.size_extract]
    omega
  · intro i hi1 hi2
    rw [Array.getElem_append]
    split
    · rename_i hlt
      have := h5 i hlt
      rw [Array.getElem?_eq_getElem hi1, Array.getElem?_eq_getElem hlt] at this
      exact Option.some.inj this
    · rename_i hge
      rw [Array.getElem_extract]
      congr 1
      omega
/-- The call hands back a value, and only lays blocks and draws. -/
def RetG (w : World) (v : Value) (e : Ending) (w' : World) : Prop := e = .returned v ∧ GB w.heap.size w w'
/-- A world that such a call may leave. -/
structure GBW (w : World) where
  x : World
  h : GB w.heap.size w x
instance (w : World) : Inhabited (GBW w) := ⟨⟨w, GB.refl _ _⟩⟩
theorem GBW.cell {w : World} {a : Addr} {v : Value} (hb : a.block < w.heap.size) (h : w.cell? a = some v) (p : GBW w) : p.x.cell? a = some v := (p.h.b.cell hb).trans h
theorem wp_region_quiet_gbw {P : Program} {id : Nat} {Q : Exit → Act → World → Prop} {a : Act} {w : World} {l : List Oper} (hm : P.follows .mixedOrders = true) (hB : Region.lexB .any l.toArray = true)
    (h : wpQuiet P l.toArray (fun w' => ∃ p : GBW w, w' = p.x) (fun a' => ∀ w', (∃ p : GBW w, w' = p.x) → Q .normal a' w') l a) : (Code.region id l.toArray true).wp P Q a w :=
  wp_region_quiet (C := fun w' => ∃ p : GBW w, w' = p.x) hm hB ⟨⟨w.drew, (GB.refl _ _).drew⟩, rfl⟩ (by simpa using h)
theorem calls_gbw {P : Program} {f : FuncId} {args : Array Value} {w : World} {p : GBW w} {v : Value} (h : Calls P f args p.x (RetG p.x v)) : Calls P f args p.x fun e w'' => e = .returned v ∧ ∃ q : GBW w, w'' = q.x :=
  h.mono fun _ _ ⟨he, hb⟩ => ⟨he, ⟨_, gstep p.h hb⟩, rfl⟩
end Go.Proofs.YtiioiajcoiaalaaGreatDoor
