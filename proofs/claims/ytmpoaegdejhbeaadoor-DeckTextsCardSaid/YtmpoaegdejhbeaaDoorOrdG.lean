/-
  XOrdT's law where operations are guarded: an operation that is wanted is taken or carried out as any other; one that is not wanted leaves nothing. Own theorems over the kit's 'wpOp'; no condition.
-/
import Derived.Test.YtmpoaegdejhbeaaDoorTcG
namespace Go.Proofs.YtmpoaegdejhbeaaDoor
open Go

section
variable {P : Program} {ops : Array Oper} {Q : Exit → Act → World → Prop} {md : Region.Mode} {S : World → Prop} {s : Nat}
theorem Held.takeG {i : Nat} {o : Oper} (v : Value) {n : Nat} {l : Array Bool} {a : Act} {w : World} (hi : ops[i]? = some o) (hS : S w)
    (hse : Region.noSelect ops = true) (hf : Region.free md ops l i = true) (hr : (Region.ready md ops l).contains i = true) (hw : waitsB md ops s i = true)
    (hQ : ∀ c a w, Q (.panic c) (a.put o.dst v) w → Q (.panic c) a w) (hg : Region.wanted o (yielded ops a.tmps) = true) (hy : ∀ x, S x → (execOp a.eval o).run P x = .ok (.value v) x)
    (h : Held P md ops Q S s n (l.setIfInBounds i true) (a.put o.dst v) w) : Held P md ops Q S s (n + 1) l a w :=
  Held.first hi (Region.noSelect_spec hse) hQ (waitsB_spec hw) n l a w (Region.free_spec hi hf) (by simpa using hr) (.inl ⟨hg, hy⟩) hS h
theorem Held.skip {i : Nat} {o : Oper} {n : Nat} {l : Array Bool} {a : Act} {w : World} (hi : ops[i]? = some o) (hS : S w)
    (hse : Region.noSelect ops = true) (hf : Region.free md ops l i = true) (hr : (Region.ready md ops l).contains i = true) (hw : waitsB md ops s i = true)
    (hQ : ∀ c a w, Q (.panic c) (a.put o.dst undef) w → Q (.panic c) a w) (hg : Region.wanted o (yielded ops a.tmps) = false)
    (h : Held P md ops Q S s n (l.setIfInBounds i true) (a.put o.dst undef) w) : Held P md ops Q S s (n + 1) l a w :=
  Held.first hi (Region.noSelect_spec hse) hQ (waitsB_spec hw) n l a w (Region.free_spec hi hf) (by simpa using hr) (.inr ⟨hg, rfl⟩) hS h
theorem Held.oneG {i : Nat} {o : Oper} {n : Nat} {l : Array Bool} {a : Act} {w : World} (ho : ops[i]? = some o) (hr : Region.ready md ops l = [i]) (hg : Region.wanted o (yielded ops a.tmps) = true)
    (h : ∀ K : Act → World → Prop, (∀ b x, (i ≠ s → S x) → Held P md ops Q S s n (l.setIfInBounds i true) b x → K b x) → Oper.wp P o a w K Q) : Held P md ops Q S s (n + 1) l a w := by
  constructor
  · intro h0; rw [hr] at h0; cases h0
  · intro j hj
    rw [hr] at hj
    obtain rfl : j = i := by simpa using hj
    refine wpOp_step ho (fun K hK => ?_)
    rw [if_pos hg]
    exact h K (fun b x h1 h2 => hK b x ⟨h1, h2⟩)
end
end Go.Proofs.YtmpoaegdejhbeaaDoor
