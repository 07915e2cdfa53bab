/-
  Entries in memory: a row of the call's own, a store into it, and the row that slices.SortFunc leaves.
-/
import Derived.Test.YthngjbhamgmcgaaEnD
import Derived.Shelf.GgSortFunc.InsertionK
namespace Go.Proofs.Ythngjbhamgmcgaa
open Go.RowKit Go.Sort
set_option linter.unusedVariables false

instance : Inhabited En := ⟨⟨0, ByteArray.empty, ByteArray.empty, ByteArray.empty⟩⟩
theorem below_val {w : World} (cs : Array Value) (t : TypeId) : RowKit.Below w.heap.size w (w.alloc (.cells cs t)) := (RowKit.Below.refl _ _).alloc (Nat.le_refl _) _
def flatE (l : List En) : List Value := l.flatMap encE
theorem flatE_len (l : List En) : (flatE l).length = l.length * 4 := flat_length (enc := encE) (k := 4) encE_len l
theorem flatE_get {l : List En} {i : Nat} {x : En} (h : l[i]? = some x) : (flatE l)[i * 4]? = some (.int .i64 x.g) ∧ (flatE l)[i * 4 + 1]? = some (.string x.nm) ∧ (flatE l)[i * 4 + 2]? = some (.string x.ky) ∧ (flatE l)[i * 4 + 3]? = some (.string x.vl) :=
  ⟨flat_get (enc := encE) (k := 4) encE_len l i 0 x h (by omega), flat_get (enc := encE) (k := 4) encE_len l i 1 x h (by omega), flat_get (enc := encE) (k := 4) encE_len l i 2 x h (by omega), flat_get (enc := encE) (k := 4) encE_len l i 3 x h (by omega)⟩
theorem flatE_app (a b : List En) : flatE (a ++ b) = flatE a ++ flatE b := by simp [flatE]
theorem flatE_cons (x : En) (l : List En) : flatE (x :: l) = .int .i64 x.g :: .string x.nm :: .string x.ky :: .string x.vl :: flatE l := rfl
theorem flatE_setw : ∀ (l : List En) (i : Nat) (y : En), ((((flatE l).set (i * 4) (.int .i64 y.g)).set (i * 4 + 1) (.string y.nm)).set (i * 4 + 2) (.string y.ky)).set (i * 4 + 3) (.string y.vl) = flatE (l.set i y)
  | [], i, y => by simp [flatE]
  | x :: l, 0, y => by rw [flatE_cons]; rfl
  | x :: l, i + 1, y => by
    rw [flatE_cons, List.set_cons_succ, flatE_cons, ← flatE_setw l i y, show (i + 1) * 4 = i * 4 + 1 + 1 + 1 + 1 by omega]
    simp only [List.set_cons_succ]
theorem perm_swap {l : List En} {i j : Nat} {a b : En} (ha : l[i]? = some a) (hb : l[j]? = some b) : ((l.set i b).set j a).Perm l := by
  obtain ⟨hi, rfl⟩ := List.getElem?_eq_some_iff.1 ha
  obtain ⟨hj, rfl⟩ := List.getElem?_eq_some_iff.1 hb
  have h := Array.swap_perm (xs := l.toArray) (i := i) (j := j) (by simpa using hi) (by simpa using hj)
  have h2 := h.toList
  rw [Array.swap_def] at h2
  simpa using h2
theorem own_store {w : World} {base : Nat} {e : TypeId} {size g c n j : Nat} {xs : List Value} (h : w.ownsRow base e size (.slice (some ⟨g, 0, none⟩) n c) n xs) (hj : j < n * size) (u : Value) :
    (w.setCell ⟨g, j, none⟩ u).ownsRow base e size (.slice (some ⟨g, 0, none⟩) n c) n (xs.set j u) := by
  refine ⟨by rw [List.length_set]; exact h.1, ?_⟩
  rcases h.2 with ⟨he, _⟩ | ⟨g', cap, cur, he, hb, hg, h1, h2, h3, h4⟩
  · cases he
  · injection he with he1 he2 he3
    injection he1 with he1
    injection he1 with he1
    subst he1 he3
    refine .inr ⟨g, c, cur.setIfInBounds j u, rfl, hb, ?_, h1, h2, by rw [Array.size_setIfInBounds]; exact h3, ?_⟩
    · have hlt := (Array.getElem?_eq_some_iff.1 hg).1
      exact Blk.set_ (w := w) (g := g) (t := e) (cs := cur) hg j u
    · rw [Array.toList_setIfInBounds, ← h4, List.take_set]
theorem holds_own {w : World} {base g n c : Nat} {l : List En} (h : w.ownsRow base 57 4 (.slice (some ⟨g, 0, none⟩) n c) n (flatE l)) : HoldsK encE 4 w g 0 l.toArray ∧ g < w.heap.size ∧ base ≤ g := by
  rcases h.2 with ⟨he, _⟩ | ⟨g', cap, cur, he, hb, hg, h1, h2, h3, h4⟩
  · cases he
  · injection he with he1 he2 he3
    injection he1 with he1
    injection he1 with he1
    subst he1
    refine ⟨fun j hj => ?_, (Array.getElem?_eq_some_iff.1 hg).1, hb⟩
    rw [size_flatK] at hj
    have hj' : j < l.length * 4 := hj
    rw [get_flatK _ _ _ _ hj, Nat.zero_add]
    obtain ⟨x, hx⟩ : ∃ x, l[j / 4]? = some x := ⟨_, List.getElem?_eq_getElem (by omega)⟩
    have hxa : l.toArray[j / 4]! = x := by
      have := (List.getElem?_eq_some_iff.1 hx)
      obtain ⟨h1, h2⟩ := this
      simp [h1, h2]
    have hf := flat_get (enc := encE) (k := 4) encE_len l (j / 4) (j % 4) x hx (by omega)
    rw [show j / 4 * 4 + j % 4 = j by omega] at hf
    have hlen : (encE x)[j % 4]? = some (encE x)[j % 4]! := by
      rcases (by omega : j % 4 = 0 ∨ j % 4 = 1 ∨ j % 4 = 2 ∨ j % 4 = 3) with h | h | h | h <;> rw [h] <;> rfl
    rw [hlen] at hf
    have hc : cur[j]? = some (encE x)[j % 4]! := by
      have : (flatE l)[j]? = some (encE x)[j % 4]! := hf
      rw [← h4, List.getElem?_take] at this
      split at this
      · rw [← Array.getElem?_toList]; exact this
      · cases this
    rw [hxa]
    exact ⟨(cell_of_row w g j cur _ (0, 0) hg).trans hc, Blk.frozen (w := w) (g := g) (t := 57) (cs := cur) hg j⟩
theorem reads_holds {w : World} {g : Nat} {d : Array En} (h : HoldsK encE 4 w g 0 d) (hg : g < w.heap.size) : Reads w w.heap.size 4 (some ⟨g, 0, none⟩) d.size (flatE d.toList) := by
  refine ⟨by rw [flatE_len]; simp, fun _ => ⟨g, 0, rfl, hg, fun j u hu => ?_⟩⟩
  have hj := (List.getElem?_eq_some_iff.1 hu).1
  rw [flatE_len] at hj
  have hj' : j < d.size * 4 := by simpa using hj
  obtain ⟨x, hx⟩ : ∃ x, d.toList[j / 4]? = some x := ⟨_, List.getElem?_eq_getElem (by omega)⟩
  have hxa : d[j / 4]! = x := by
    obtain ⟨h1, h2⟩ := List.getElem?_eq_some_iff.1 hx
    have h1' : j / 4 < d.size := by simpa using h1
    rw [getElem!_pos d (j / 4) h1']
    simpa using h2
  have hf := flat_get (enc := encE) (k := 4) encE_len d.toList (j / 4) (j % 4) x hx (by omega)
  rw [show j / 4 * 4 + j % 4 = j by omega] at hf
  have hlen : (encE x)[j % 4]? = some (encE x)[j % 4]! := by
    rcases (by omega : j % 4 = 0 ∨ j % 4 = 1 ∨ j % 4 = 2 ∨ j % 4 = 3) with h | h | h | h <;> rw [h] <;> rfl
  have hu' : (encE x)[j % 4]? = some u := by rw [← hf]; exact hu
  have hc := (HoldsK.cell h (i := j / 4) (c := j % 4) (by omega) (by omega)).1
  rw [hxa, show 0 + j / 4 * 4 + j % 4 = 0 + j by omega] at hc
  rw [hc]
  rw [hlen] at hu'
  exact hu'
theorem below_sort {w : World} {g m : Nat} {d : Array En} {os : Array Obj} (hg : g < w.heap.size) : RowKit.Below g w (sortWorldK encE 4 w g 0 m d os) where
  os := rfl
  tape := rfl
  output := rfl
  size := by unfold sortWorldK; rw [size_grow]; show _ ≤ (putRow id (Sort.ahead w m) g 0 _).heap.size + _; rw [size_putRow]; show w.heap.size ≤ w.heap.size + _; omega
  block k hk := by
    show ((w.heap.modify g _) ++ os)[k]? = _
    rw [Array.getElem?_append]
    split
    · rw [Array.getElem?_modify, if_neg (by omega)]
    · rename_i hn
      rw [Array.size_modify] at hn
      omega
end Go.Proofs.Ythngjbhamgmcgaa
