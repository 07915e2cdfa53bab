/-
  The walk of tidewrightref26.tasks, for every graph and lists.
-/
import Derived.Test.YtmpoaegdejhbeaaDoorDkBb
namespace Go.Proofs.YtmpoaegdejhbeaaDoor
open Go.RowKit Go.Shelf
attribute [local go_sem] Oper.semAt_some

/-- A slice of ints, and what it holds. -/
structure SL where
  a : Option Addr
  m : Nat
  c : Nat
  xs : List Int
/-- k slices that lie in block b, and what they hold. -/
def Lists (w : World) (B b : Nat) (ls : List SL) : Prop := ∀ i s, ls[i]? = some s → w.cell? ⟨b, i, none⟩ = some (.slice s.a s.m s.c) ∧ Reads w B 1 s.a s.m (s.xs.map (Value.int .i64)) ∧ s.m ≤ 4611686018427387904
theorem Lists.below {w w' : World} {B b : Nat} {ls : List SL} (h : Lists w B b ls) (hb : Below B w w') (hbB : b < B) : Lists w' B b ls := fun i s hs =>
  ⟨(hb.cell (p := ⟨b, i, none⟩) hbB).trans (h i s hs).1, (h i s hs).2.1.below hb, (h i s hs).2.2⟩
theorem Lists.more {w : World} {B B' b : Nat} {ls : List SL} (h : Lists w B b ls) (hB : B ≤ B') : Lists w B' b ls := fun i s hs => ⟨(h i s hs).1, (h i s hs).2.1.more hB, (h i s hs).2.2⟩
/-- The error of a graph and lists of tasks. -/
def errT (g : Gr) (ls : List SL) : Int := if validB g && ls.all (fun s => ascB s.xs) then (if ls.any (fun s => s.xs.any (outT g.n1)) then 7 else 0) else 1

theorem all_take {α : Type} (f : α → Bool) (xs : List α) (k : Nat) (x : α) (h : xs[k]? = some x) (hf : f x = true) (h0 : (xs.take k).all f = true) : (xs.take (k + 1)).all f = true := by
  rw [take_snoc' h, List.all_append, h0]; simp [hf]
theorem all_miss {α : Type} (f : α → Bool) (xs : List α) (k : Nat) (x : α) (h : xs[k]? = some x) (hf : f x = false) : xs.all f = false := by
  cases e : xs.all f
  · rfl
  · rw [List.all_eq_true.1 e x (List.mem_of_getElem? h)] at hf; cases hf

end Go.Proofs.YtmpoaegdejhbeaaDoor
