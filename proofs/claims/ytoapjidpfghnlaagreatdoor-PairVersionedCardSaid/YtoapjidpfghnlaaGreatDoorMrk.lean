/-
  The marks that ranges over a function leave in a frame, where they stand inside a loop. Plain theorems over any program; no condition. (Lines of XDkOr2.)
-/
import Derived.Test.YtoapjidpfghnlaaGreatDoorBgP1
import Derived.RangeFuncCalls
namespace Go.Proofs.YtoapjidpfghnlaaGreatDoor
open Go.RowKit

/-- The marks that ranges over a function have left among a frame's deferred calls: blocks between M and N, each below the one behind it. -/
def Marks (M : Nat) : Nat → List Deferred → World → Prop
  | _, [], _ => True
  | N, d :: ds, W => ∃ D, d = { target := .collected D, args := #[] } ∧ M ≤ D ∧ D < N ∧ W.heap[D]? = some (.deferred (some [])) ∧ Marks M D ds W
theorem Marks.kept {M : Nat} {W W' : World} : ∀ {N : Nat} {ds : List Deferred}, Marks M N ds W → (∀ k o, k < N → W.heap[k]? = some o → o.isCells = false → W'.heap[k]? = some o) → Marks M N ds W'
  | _, [], _, _ => trivial
  | _, _ :: _, ⟨D, h1, h2, h3, h4, h5⟩, hk => ⟨D, h1, h2, h3, hk _ _ h3 h4 rfl, h5.kept fun k o hk1 => hk k o (Nat.lt_trans hk1 h3)⟩
theorem Marks.mono {M N N' : Nat} {ds : List Deferred} {W : World} (h : Marks M N ds W) (hN : N ≤ N') : Marks M N' ds W := by
  cases ds with
  | nil => trivial
  | cons d ds =>
    obtain ⟨D, h1, h2, h3, h4, h5⟩ := h
    exact ⟨D, h1, h2, by omega, h4, h5⟩
/-- What is left when a frame has taken over its marks: cells, and what lies below M. -/
structure Left (M : Nat) (W W' : World) : Prop where
  os : W'.os = W.os
  tape : W'.tape = W.tape
  output : W'.output = W.output
  size : W'.heap.size = W.heap.size
  cells : ∀ (k : Nat) (o : Obj), W.heap[k]? = some o → o.isCells = true → W'.heap[k]? = some o
  low : ∀ k, k < M → W'.heap[k]? = W.heap[k]?
theorem Left.refl (M : Nat) (W : World) : Left M W W := ⟨rfl, rfl, rfl, rfl, fun _ _ h _ => h, fun _ _ => rfl⟩
theorem leaves_marks {F : Fence} {n : Nat} {P : Program} {fn : Func} {tmps : Array Value} {R : Ending → World → Prop} {M : Nat} : ∀ {N : Nat} {ds : List Deferred} {W : World}, Marks M N ds W →
    (∀ W', Left M W W' → LeavesIn F n P fn tmps R [] .returning W') → LeavesInM F n P fn tmps R ds .returning W
  | _, [], W, _, h => h W (Left.refl _ _)
  | _, _ :: _, W, ⟨D, h1, h2, h3, h4, h5⟩, h => by
    subst h1
    refine ⟨by simp, .inl ⟨_, _, rfl, run_takeDeferred h4, leaves_marks (h5.kept fun k o hk ho _ => ?_) fun W' hl => h W' ?_⟩⟩
    · rw [← ho]
      simp [World.putObj, Array.getElem?_setIfInBounds]
      omega
    · have hq : ∀ k, k ≠ D → (W.putObj D (.deferred none)).heap[k]? = W.heap[k]? := fun k hk => by
        simp [World.putObj, Array.getElem?_setIfInBounds]
        omega
      refine ⟨hl.os, hl.tape, hl.output, by rw [hl.size]; simp [World.putObj], fun k o ho hc => hl.cells k o ?_ hc, fun k hk => (hl.low k hk).trans (hq k (by omega))⟩
      rw [hq k (fun e => by subst e; rw [h4] at ho; cases ho; cases hc)]
      exact ho

theorem own_left {M : Nat} {w w' : World} {base : Nat} {e : TypeId} {size n : Nat} {v : Value} {xs : List Value} (hl : Left M w w') (h : w.ownsRow base e size v n xs) : w'.ownsRow base e size v n xs := by
  refine ⟨h.1, ?_⟩
  rcases h.2 with h1 | ⟨g, cap, cur, h1, h2, h3, h4⟩
  · exact .inl h1
  · exact .inr ⟨g, cap, cur, h1, h2, hl.cells g _ h3 rfl, h4⟩
theorem below_left {M B : Nat} {a w w' : World} (hl : Left M w w') (h : Below B a w) (hB : B ≤ M) : Below B a w' :=
  ⟨hl.os.trans h.os, hl.tape.trans h.tape, hl.output.trans h.output, by rw [hl.size]; exact h.size, fun k hk => (hl.low k (by omega)).trans (h.block k hk)⟩
theorem others_below {a b : World} (h : Below a.heap.size a b) : KeepsOthers a b := ⟨h.size, fun k o hk _ => by rw [← hk]; exact h.block k (Array.getElem?_eq_some_iff.1 hk).1⟩
theorem Bar.add {N : Nat} {X Y : List Nat} {a b : World} (h : Bar N X a b) (hXY : ∀ x ∈ X, x ∈ Y) : Bar N Y a b := ⟨h.os, h.tape, h.output, h.size, fun k hk hx => h.block k hk fun e => hx (hXY k e)⟩
end Go.Proofs.YtoapjidpfghnlaaGreatDoor
