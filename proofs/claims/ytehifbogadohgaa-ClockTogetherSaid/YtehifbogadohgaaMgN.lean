/-
  Windows in memory: a store into a row of the call's own, and the row that slices.SortFunc leaves.
-/
import Derived.Test.YtehifbogadohgaaMgM
import Derived.Test.YtehifbogadohgaaCkC
import Derived.Shelf.GgSortFunc.InsertionK
namespace Go.Proofs.Ytehifbogadohgaa
open Go.RowKit Go.Sort
set_option linter.unusedVariables false

theorem below_val {w : World} (cs : Array Value) (t : TypeId) : Below w.heap.size w (w.alloc (.cells cs t)) := (Below.refl _ _).alloc (Nat.le_refl _) _
theorem flatW_len (l : List Wd) : (flatW l).length = l.length * 2 := flat_length (enc := encW) (k := 2) encW_len l
theorem flatW_get {l : List Wd} {i : Nat} {x : Wd} (h : l[i]? = some x) : (flatW l)[i * 2]? = some (.int .i64 x.1) ∧ (flatW l)[i * 2 + 1]? = some (.int .i64 x.2) :=
  ⟨flat_get (enc := encW) (k := 2) encW_len l i 0 x h (by omega), flat_get (enc := encW) (k := 2) encW_len l i 1 x h (by omega)⟩
theorem flatW_app (a b : List Wd) : flatW (a ++ b) = flatW a ++ flatW b := by simp [flatW]
/-- The greater end, stored. -/
theorem flatW_set (p : List Wd) (q : Wd) (v : Int) : (flatW (p ++ [q])).set (p.length * 2 + 1) (.int .i64 v) = flatW (p ++ [(q.1, v)]) := by
  rw [flatW_app, flatW_app, List.set_append_right _ _ (by rw [flatW_len]; omega), flatW_len, show p.length * 2 + 1 - p.length * 2 = 1 by omega]
  rfl
theorem own_store {w : World} {base : Nat} {e : TypeId} {size g c n j : Nat} {xs : List Value} (h : w.ownsRow base e size (.slice (some ⟨g, 0, none⟩) n c) n xs) (hj : j < n * size) (u : Value) :
    (w.setCell ⟨g, j, none⟩ u).ownsRow base e size (.slice (some ⟨g, 0, none⟩) n c) n (xs.set j u) := by
  refine ⟨by rw [List.length_set]; exact h.1, ?_⟩
  rcases h.2 with ⟨he, _⟩ | ⟨g', cap, cur, he, hb, hg, h1, h2, h3, h4⟩
  · cases he
  · injection he with he1 he2 he3
    injection he1 with he1
    injection he1 with he1
    subst he1 he3
    refine .inr ⟨g, c, cur.setIfInBounds j u, rfl, hb, ?_, h1, h2, by rw [Array.size_setIfInBounds]; exact h3, ?_⟩
    · have hlt := (Array.getElem?_eq_some_iff.1 hg).1
      exact Blk.set_ (w := w) (g := g) (t := e) (cs := cur) hg j u
    · rw [Array.toList_setIfInBounds, ← h4, List.take_set]
theorem holds_own {w : World} {base g n c : Nat} {l : List Wd} (h : w.ownsRow base 35 2 (.slice (some ⟨g, 0, none⟩) n c) n (flatW l)) : HoldsK encW 2 w g 0 l.toArray ∧ g < w.heap.size ∧ base ≤ g := by
  rcases h.2 with ⟨he, _⟩ | ⟨g', cap, cur, he, hb, hg, h1, h2, h3, h4⟩
  · cases he
  · injection he with he1 he2 he3
    injection he1 with he1
    injection he1 with he1
    subst he1
    refine ⟨fun j hj => ?_, (Array.getElem?_eq_some_iff.1 hg).1, hb⟩
    rw [size_flatK] at hj
    have hj' : j < l.length * 2 := hj
    rw [get_flatK _ _ _ _ hj, Nat.zero_add]
    obtain ⟨x, hx⟩ : ∃ x, l[j / 2]? = some x := ⟨_, List.getElem?_eq_getElem (by omega)⟩
    have hxa : l.toArray[j / 2]! = x := by
      have := (List.getElem?_eq_some_iff.1 hx)
      obtain ⟨h1, h2⟩ := this
      simp [h1, h2]
    have hf := flat_get (enc := encW) (k := 2) encW_len l (j / 2) (j % 2) x hx (by omega)
    rw [show j / 2 * 2 + j % 2 = j by omega] at hf
    have hlen : (encW x)[j % 2]? = some (encW x)[j % 2]! := by
      rcases Nat.mod_two_eq_zero_or_one j with h | h <;> rw [h] <;> rfl
    rw [hlen] at hf
    have hc : cur[j]? = some (encW x)[j % 2]! := by
      have : (flatW l)[j]? = some (encW x)[j % 2]! := hf
      rw [← h4, List.getElem?_take] at this
      split at this
      · rw [← Array.getElem?_toList]; exact this
      · cases this
    rw [hxa]
    exact ⟨(cell_of_row w g j cur _ (0, 0) hg).trans hc, Blk.frozen (w := w) (g := g) (t := 35) (cs := cur) hg j⟩
theorem reads_holds {w : World} {g : Nat} {d : Array Wd} (h : HoldsK encW 2 w g 0 d) (hg : g < w.heap.size) : Reads w w.heap.size 2 (some ⟨g, 0, none⟩) d.size (flatW d.toList) := by
  refine ⟨by rw [flatW_len]; simp, fun _ => ⟨g, 0, rfl, hg, fun j u hu => ?_⟩⟩
  have hj := (List.getElem?_eq_some_iff.1 hu).1
  rw [flatW_len] at hj
  have hj' : j < d.size * 2 := by simpa using hj
  obtain ⟨x, hx⟩ : ∃ x, d.toList[j / 2]? = some x := ⟨_, List.getElem?_eq_getElem (by omega)⟩
  have hxa : d[j / 2]! = x := by
    obtain ⟨h1, h2⟩ := List.getElem?_eq_some_iff.1 hx
    have h1' : j / 2 < d.size := by simpa using h1
    rw [getElem!_pos d (j / 2) h1']
    simpa using h2
  have hf := flat_get (enc := encW) (k := 2) encW_len d.toList (j / 2) (j % 2) x hx (by omega)
  rw [show j / 2 * 2 + j % 2 = j by omega] at hf
  have hlen : (encW x)[j % 2]? = some (encW x)[j % 2]! := by
    rcases Nat.mod_two_eq_zero_or_one j with h | h <;> rw [h] <;> rfl
  have hu' : (encW x)[j % 2]? = some u := by rw [← hf]; exact hu
  have hc := (HoldsK.cell h (i := j / 2) (c := j % 2) (by omega) (by omega)).1
  rw [hxa, show 0 + j / 2 * 2 + j % 2 = 0 + j by omega] at hc
  rw [hc]
  rw [hlen] at hu'
  exact hu'
theorem below_sort {w : World} {g m : Nat} {d : Array Wd} {os : Array Obj} (hg : g < w.heap.size) : Below g w (sortWorldK encW 2 w g 0 m d os) where
  os := rfl
  tape := rfl
  output := rfl
  size := by unfold sortWorldK; rw [size_grow]; show _ ≤ (putRow id (Sort.ahead w m) g 0 _).heap.size + _; rw [size_putRow]; show w.heap.size ≤ w.heap.size + _; omega
  block k hk := by
    show ((w.heap.modify g _) ++ os)[k]? = _
    rw [Array.getElem?_append]
    split
    · rw [Array.getElem?_modify, if_neg (by omega)]
    · rename_i hn
      rw [Array.size_modify] at hn
      omega
/-- The order of Compare. -/
theorem ltW (x y : Wd) : cmpW x.1 x.2 y.1 y.2 < 0 ↔ (x.1 < y.1 ∨ (x.1 = y.1 ∧ x.2 < y.2)) := by
  unfold cmpW orI cmpI
  split <;> split <;> (try split) <;> (try split) <;> omega
end Go.Proofs.Ytehifbogadohgaa
