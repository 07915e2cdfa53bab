/-
  'Bar N X w w'': below block N, but for the blocks of the list X, the world is as it was. For a loop over an iterator whose body writes variables that lie in boxes. Plain theorems over any program; no condition.
-/
import Derived.Test.YtehifbogadohgaaDoorMem
import Derived.RangeFuncNested
import Derived.RangeFuncBound
import Derived.RangeFuncCalls
import Derived.RangeFuncLeaves
namespace Go.Proofs.YtehifbogadohgaaDoor
open Go.RowKit

theorem wide_fn (f : FuncId) : Fence.wide.fn f := trivial
theorem wide_depth : Fence.wide.depth = none := rfl

structure Bar (N : Nat) (X : List Nat) (w w' : World) : Prop where
  os : w'.os = w.os
  tape : w'.tape = w.tape
  output : w'.output = w.output
  size : w.heap.size ≤ w'.heap.size
  block : ∀ k, k < N → k ∉ X → w'.heap[k]? = w.heap[k]?

section
variable {N : Nat} {X : List Nat} {a b w w' : World}
theorem Bar.refl (N : Nat) (X : List Nat) (w : World) : Bar N X w w := ⟨rfl, rfl, rfl, Nat.le_refl _, fun _ _ _ => rfl⟩
theorem Bar.trans (h : Bar N X a b) (k : Bar N X b w) : Bar N X a w :=
  ⟨k.os.trans h.os, k.tape.trans h.tape, k.output.trans h.output, Nat.le_trans h.size k.size, fun i hi hx => (k.block i hi hx).trans (h.block i hi hx)⟩
theorem Bar.of_below (h : Below N a w) (X : List Nat) : Bar N X a w := ⟨h.os, h.tape, h.output, h.size, fun k hk _ => h.block k hk⟩
theorem Bar.below (h : Bar N X a w) {B : Nat} (hB : B ≤ N) (hX : ∀ x ∈ X, B ≤ x) : Below B a w :=
  ⟨h.os, h.tape, h.output, h.size, fun k hk => h.block k (by omega) (fun hx => by have := hX k hx; omega)⟩
theorem Bar.drewN (h : Bar N X a w) (n : Nat) : Bar N X a (w.drewN n) := ⟨h.os, h.tape, h.output, h.size, h.block⟩
theorem Bar.drew (h : Bar N X a w) : Bar N X a w.drew := ⟨h.os, h.tape, h.output, h.size, h.block⟩
theorem Bar.alloc (h : Bar N X a w) (hN : N ≤ w.heap.size) (o : Obj) : Bar N X a (w.alloc o) :=
  h.trans ⟨rfl, rfl, rfl, by simp, fun k hk _ => Below.heap_alloc _ _ _ (by omega)⟩
theorem Bar.setCell (h : Bar N X a w) {p : Addr} (hp : N ≤ p.block ∨ p.block ∈ X) (u : Value) : Bar N X a (w.setCell p u) :=
  h.trans ⟨rfl, rfl, rfl, by simp [World.setCell], fun k hk hx => Below.heap_setCell _ _ _ _ (by
    rintro rfl
    rcases hp with hp | hp
    · omega
    · exact hx hp)⟩
theorem Bar.grown (h : Bar N X a w) {row : Option Nat} (hg : w.grownBy w' row) (hN : N ≤ w.heap.size) (hr : ∀ k, row = some k → N ≤ k ∨ k ∈ X) : Bar N X a w' :=
  h.trans ⟨hg.os, hg.tape, hg.output, hg.size, fun k hk hx => hg.block k (by omega) (fun e => by
    rcases hr k e.symm with h | h
    · omega
    · exact hx h)⟩
theorem Bar.boxed (h : Bar N X a w) {B : Nat} {t : TypeId} {v : Value} (hb : Boxed a B t v) (hB : B < N) (hX : B ∉ X) : Boxed w B t v := (h.block B hB hX).trans hb
theorem Bar.cell (h : Bar N X a w) {p : Addr} (hB : p.block < N) (hX : p.block ∉ X) : w.cell? p = a.cell? p := World.cell?_of_block (h.block _ hB hX)
theorem bar_t {A B C : World} (h : Bar N X A B) (k : Bar N X B C) : Bar N X A C := h.trans k
theorem bar_b {w : World} (hn : N ≤ w.heap.size) (W : World) (l : Nat) (o o' : Obj) (hl : w.heap.size ≤ l) (h : W.heap[l]? = some o) (_ : o.isCells = false) (_ : o.isWalk = false) : Bar N X W (W.putObj l o') :=
  (Bar.refl N X W).grown (grownBy_putObj' W l o') (by have := (Array.getElem?_eq_some_iff.1 h).1; omega) (fun k e => by cases e; exact .inl (by omega))
theorem ownFrom_bar {β : Type} {B : Nat} {w₀ : World} (hn : N ≤ w₀.heap.size) (hB : N ≤ B) : OwnFrom B (fun (_ : β) W => Bar N X w₀ W) :=
  fun _ _ _ _ hs hg hr => hs.grown hg (Nat.le_trans hn hs.size) (fun k e => .inl (Nat.le_trans hB (hr k e).1))
end

theorem Boxed.drewN {W : World} {B : Nat} {t : TypeId} {v : Value} (h : Boxed W B t v) (n : Nat) : Boxed (W.drewN n) B t v := h
theorem Boxed.setOther {W : World} {B : Nat} {t : TypeId} {v : Value} (h : Boxed W B t v) {p : Addr} (hne : B ≠ p.block) (u : Value) : Boxed (W.setCell p u) B t v := (Below.heap_setCell W p u B hne).trans h

/-- 'out = append(out, ..)', out in box B, its row at or beyond N, the box below N: all that the walk owes behind it. -/
theorem Boxed.collected {W w1 : World} {N B : Nat} {t e : TypeId} {size : Nat} {v v' : Value} {k m : Nat} {xs ys : List Value} {tmp : Obj}
    (hv : Boxed W B t v) (hrow : W.ownsRow N e size v k xs) (hN : N ≤ W.heap.size) (hB : B < N)
    (hown' : w1.ownsRow N e size v' m ys) (hgrow : (W.alloc tmp).grownBy w1 v.ownBlock) :
    Boxed w1 B t v ∧ Boxed (w1.setCell ⟨B, 0, none⟩ v') B t v' ∧ (w1.setCell ⟨B, 0, none⟩ v').ownsRow N e size v' m ys ∧ KeepsOthers W (w1.setCell ⟨B, 0, none⟩ v') ∧ Bar N [B] W (w1.setCell ⟨B, 0, none⟩ v') := by
  have hne : some B ≠ v.ownBlock := fun e => by have := (hrow.lt B e.symm).1; omega
  have hne' : some B ≠ v'.ownBlock := fun e => by have := (hown'.lt B e.symm).1; omega
  have hv1 : Boxed w1 B t v := (hv.alloc tmp).kept hgrow hne
  refine ⟨hv1, hv1.set v', hown'.kept (grownBy_setCell' w1 B v') (.inr hne'.symm), ?_, ?_⟩
  · refine ((KeepsOthers.alloc W tmp).trans (KeepsOthers.of_grownBy hgrow fun j o ej hj => ?_)).trans (KeepsOthers.setCell _ _ _)
    rcases (hrow.alloc tmp).2 with ⟨rfl, _⟩ | ⟨g, cap, cur, rfl, _, hgb, _⟩
    · simp [Value.ownBlock] at ej
    · obtain rfl : g = j := by simpa [Value.ownBlock] using ej
      rw [hgb] at hj; cases hj; rfl
  · exact (((Bar.refl N [B] W).alloc hN tmp).grown hgrow (by simp; omega) fun j ej => .inl (hrow.lt j ej).1).setCell (.inr (by simp)) v'

/-- 'Box B holds a slice that owns f s' abides whatever is no cells. -/
theorem holdsRow_from {β : Type} (C N B : Nat) (t e : TypeId) (size : Nat) (k : β → Nat) (f : β → List Value) : OwnFrom C (fun s W => ∃ v, Boxed W B t v ∧ W.ownsRow N e size v (k s) (f s)) := by
  have h := (holdsRow_own N B t e size k f (fun _ _ => True)).from C
  intro s X Y row ⟨v, hv, hr⟩ hg hrow
  obtain ⟨v', a, b, _⟩ := h s X Y row ⟨v, hv, hr, trivial⟩ hg hrow
  exact ⟨v', a, b⟩
end Go.Proofs.YtehifbogadohgaaDoor
