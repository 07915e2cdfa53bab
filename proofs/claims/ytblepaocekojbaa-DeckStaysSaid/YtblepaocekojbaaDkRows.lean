/-
  A slice of one-cell elements that the call owns, told by a function; labels that no edge turns any more. Plain theorems; no condition.
-/
import Derived.Test.YtblepaocekojbaaDkN
import Derived.Laws.OwnMore
namespace Go.Proofs.Ytblepaocekojbaa
open Go.RowKit

def rowL (n : Nat) (f : Nat → Value) : List Value := (List.range n).map f
theorem rowL_len (n : Nat) (f : Nat → Value) : (rowL n f).length = n := by simp [rowL]
theorem rowL_get {n i : Nat} (f : Nat → Value) (h : i < n) : (rowL n f)[i]? = some (f i) := by simp [rowL, h]
theorem rowL_snoc (n : Nat) (f : Nat → Value) : rowL (n + 1) f = rowL n f ++ [f n] := by simp [rowL, List.range_succ]
theorem rowL_congr {n : Nat} {f g : Nat → Value} (h : ∀ i, i < n → f i = g i) : rowL n f = rowL n g := by
  unfold rowL
  exact List.map_congr_left fun i hi => h i (List.mem_range.1 hi)
theorem rowL_set (n i : Nat) (f : Nat → Value) (u : Value) : (rowL n f).set i u = rowL n (fun j => if j = i then u else f j) := by
  apply List.ext_getElem?
  intro j
  by_cases hj : j < n
  · rw [rowL_get _ hj, List.getElem?_set]
    by_cases e : i = j
    · subst e; rw [if_pos rfl, rowL_len, if_pos hj, if_pos rfl]
    · rw [if_neg e, rowL_get _ hj, if_neg (fun h => e h.symm)]
  · rw [List.getElem?_eq_none (by rw [List.length_set, rowL_len]; omega), List.getElem?_eq_none (by rw [rowL_len]; omega)]

/-- Block g is a row of the call's own: n elements of one cell, told by f. -/
def OwnR (w : World) (base : Nat) (t : TypeId) (g cap n : Nat) (f : Nat → Value) : Prop := w.ownsRow base t 1 (.slice (some ⟨g, 0, none⟩) n cap) n (rowL n f)
section
variable {w w' : World} {base g cap n : Nat} {t : TypeId} {f : Nat → Value}
theorem OwnR.lt (h : OwnR w base t g cap n f) : base ≤ g ∧ g < w.heap.size := World.ownsRow.lt h g rfl
theorem OwnR.cell (h : OwnR w base t g cap n f) {i : Nat} (hi : i < n) : w.cell? ⟨g, i, none⟩ = some (f i) := by
  rw [World.ownsRow.cellAt h i (by omega), rowL_get _ hi]
theorem OwnR.frozen (h : OwnR w base t g cap n f) (i : Nat) : w.frozen? ⟨g, i, none⟩ = false := World.ownsRow.frozenAt h i
theorem OwnR.congr (h : OwnR w base t g cap n f) {f' : Nat → Value} (e : ∀ i, i < n → f i = f' i) : OwnR w base t g cap n f' := by
  unfold OwnR at h ⊢; rwa [← rowL_congr e]
theorem OwnR.set (h : OwnR w base t g cap n f) (i : Nat) (u : Value) : OwnR (w.setCell ⟨g, i, none⟩ u) base t g cap n (fun j => if j = i then u else f j) := by
  have := (World.ownsRow.stored h i u).1
  unfold OwnR; rwa [← rowL_set]
theorem OwnR.alloc (h : OwnR w base t g cap n f) (o : Obj) : OwnR (w.alloc o) base t g cap n f := World.ownsRow.alloc h o
theorem OwnR.drewN (h : OwnR w base t g cap n f) (k : Nat) : OwnR (w.drewN k) base t g cap n f := h
theorem OwnR.kept (h : OwnR w base t g cap n f) {row : Option Nat} (hg : w.grownBy w' row) (hne : some g ≠ row) : OwnR w' base t g cap n f := World.ownsRow.kept h hg (.inr hne)
theorem OwnR.setOther (h : OwnR w base t g cap n f) {a : Addr} (ha : a.block ≠ g) (u : Value) : OwnR (w.setCell a u) base t g cap n f :=
  ownsRow_setCell_other h (fun e => by injection e with e; exact ha e.symm) u
theorem OwnR.below (h : OwnR w base t g cap n f) (hb : Below w.heap.size w w') : OwnR w' base t g cap n f := own_below h hb
theorem OwnR.mono (h : OwnR w base t g cap n f) {base' : Nat} (hb : base' ≤ base) : OwnR w base' t g cap n f := own_mono h hb
theorem OwnR.reads (h : OwnR w base t g cap n f) : Reads w w.heap.size 1 (some ⟨g, 0, none⟩) n (rowL n f) := Reads.of_own h
theorem OwnR.retOwn {W : World} (h : OwnR w W.heap.size t g cap n f) (hb : Below W.heap.size W w) : RetOwn W t 1 n (rowL n f) (.returned (.slice (some ⟨g, 0, none⟩) n cap)) w :=
  ⟨_, _, rfl, h, hb⟩
end
theorem own_R {w : World} {base : Nat} {t : TypeId} {v : Value} {n : Nat} {f : Nat → Value} (h : w.ownsRow base t 1 v n (rowL n f)) (hn : 0 < n) : ∃ g cap, v = .slice (some ⟨g, 0, none⟩) n cap ∧ OwnR w base t g cap n f := by
  obtain ⟨g, cap, rfl, _⟩ := h.form hn
  exact ⟨g, cap, rfl, h⟩
theorem OwnR.of_ret {W w : World} {t : TypeId} {n : Nat} {f : Nat → Value} {e : Ending} (h : RetOwn W t 1 n (rowL n f) e w) (hn : 0 < n) : ∃ g cap, e = .returned (.slice (some ⟨g, 0, none⟩) n cap) ∧ OwnR w W.heap.size t g cap n f ∧ Below W.heap.size W w := by
  obtain ⟨A, c, rfl, ho, hb⟩ := h
  obtain ⟨g, cap, e, hR⟩ := own_R ho hn
  injection e with e1 e2 e3
  subst e1 e3
  exact ⟨g, _, rfl, hR, hb⟩

/-! Labels. -/
theorem relab_same {L : Nat → Nat} {x y : Nat} (h : L x = L y) (e : Ed) : relab L e x = relab L e y := by
  unfold relab
  cases e.s
  · simp [h]
  · simpa using h
theorem relab_joins (L : Nat → Nat) (e : Ed) (hs : e.s = false) : relab L e e.f.toNat = relab L e e.t.toNat := by
  unfold relab
  simp only [hs, Bool.false_eq_true, if_false]
  rcases Nat.le_total (L e.f.toNat) (L e.t.toNat) with h | h
  · rw [Nat.max_eq_right h, Nat.min_eq_left h, if_pos rfl]
    by_cases e1 : L e.f.toNat = L e.t.toNat
    · rw [if_pos e1]
    · rw [if_neg e1]
  · rw [Nat.max_eq_left h, Nat.min_eq_right h, if_pos rfl]
    by_cases e1 : L e.t.toNat = L e.f.toNat
    · rw [if_pos e1]
    · rw [if_neg e1]
theorem fold_same (es : List Ed) {L : Nat → Nat} {x y : Nat} (h : L x = L y) : es.foldl relab L x = es.foldl relab L y := by
  induction es generalizing L with
  | nil => exact h
  | cons e es ih => exact ih (relab_same h e)
theorem labs_closed {es : List Ed} {e : Ed} (he : e ∈ es) (hs : e.s = false) : labs es e.f.toNat = labs es e.t.toNat := by
  obtain ⟨l1, l2, rfl⟩ := List.append_of_mem he
  unfold labs
  rw [List.foldl_append, List.foldl_cons]
  exact fold_same l2 (relab_joins _ e hs)
theorem relab_still {L : Nat → Nat} {e : Ed} (h : e.s = true ∨ L e.f.toNat = L e.t.toNat) : relab L e = L := by
  rcases h with h | h
  · simp [relab, h]
  · unfold relab
    cases e.s
    · simp only [Bool.false_eq_true, if_false, h, Nat.max_self, Nat.min_self]
      funext k
      by_cases e1 : L k = L e.t.toNat
      · rw [if_pos e1, e1]
      · rw [if_neg e1]
    · rfl
/-- Behind all edges, no edge turns a label. -/
theorem labs_still {es : List Ed} {e : Ed} (he : e ∈ es) : relab (labs es) e = labs es :=
  relab_still (by cases hs : e.s <;> simp [hs, labs_closed he])
theorem fold_still {es : List Ed} (k : Nat) : (es.take k).foldl relab (labs es) = labs es := by
  have h : ∀ l : List Ed, (∀ e ∈ l, e ∈ es) → l.foldl relab (labs es) = labs es := by
    intro l
    induction l with
    | nil => intro _; rfl
    | cons e l ih => intro h; rw [List.foldl_cons, labs_still (h e (by simp))]; exact ih fun e' he' => h e' (by simp [he'])
  exact h _ fun e he => List.mem_of_mem_take he
end Go.Proofs.Ytblepaocekojbaa
