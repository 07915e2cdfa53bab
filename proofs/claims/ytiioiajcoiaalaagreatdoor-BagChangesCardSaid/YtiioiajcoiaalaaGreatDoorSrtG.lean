/-
  The sort's vocabulary at a row of the call's own, whatever its records are. Plain theorems over any program.
-/
import Derived.Test.YtiioiajcoiaalaaGreatDoorBar
import Derived.Shelf.SlSortCmp.WholeK
namespace Go.Proofs.YtiioiajcoiaalaaGreatDoor
open Go.Shelf Go.Lib Go.Sort

section
variable {α : Type} [Inhabited α] {enc : α → List Value} {k : Nat} (hk : ∀ x, (enc x).length = k) (h0 : 0 < k)
include hk h0
theorem holds_ownG {w : World} {base g n c : Nat} {e : TypeId} {l : List α} (h : w.ownsRow base e k (.slice (some ⟨g, 0, none⟩) n c) n (l.flatMap enc)) : HoldsK enc k w g 0 l.toArray ∧ g < w.heap.size ∧ base ≤ g := by
  rcases h.2 with ⟨he, _⟩ | ⟨g', cap, cur, he, hb, hg, h1, h2, h3, h4⟩
  · cases he
  · injection he with he1 he2 he3
    injection he1 with he1
    injection he1 with he1
    subst he1
    refine ⟨fun j hj => ?_, (Array.getElem?_eq_some_iff.1 hg).1, hb⟩
    rw [size_flatK] at hj
    have hj' : j < l.length * k := hj
    have hq : j / k < l.length := (Nat.div_lt_iff_lt_mul h0).2 hj'
    have hm := Nat.mod_lt j h0
    rw [get_flatK _ _ _ _ hj, Nat.zero_add]
    obtain ⟨x, hx⟩ : ∃ x, l[j / k]? = some x := ⟨_, List.getElem?_eq_getElem hq⟩
    have hxa : l.toArray[j / k]! = x := by
      obtain ⟨h1, h2⟩ := List.getElem?_eq_some_iff.1 hx
      simp [h1, h2]
    have hf := flat_get (enc := enc) (k := k) hk l (j / k) (j % k) x hx hm
    rw [show j / k * k + j % k = j by rw [Nat.mul_comm]; exact Nat.div_add_mod j k] at hf
    have hlen : (enc x)[j % k]? = some (enc x)[j % k]! := by
      rw [getElem!_pos (enc x) (j % k) (by rw [hk]; exact hm)]
      exact List.getElem?_eq_getElem _
    rw [hlen] at hf
    have hc : cur[j]? = some (enc x)[j % k]! := by
      have h5 : (l.flatMap enc)[j]? = some (enc x)[j % k]! := hf
      rw [← h4, List.getElem?_take] at h5
      split at h5
      · rw [← Array.getElem?_toList]; exact h5
      · cases h5
    rw [hxa]
    exact ⟨(cell_of_row w g j cur _ (0, 0) hg).trans hc, Blk.frozen (w := w) (g := g) (t := e) (cs := cur) hg j⟩
theorem reads_holdsG {w : World} {g : Nat} {d : Array α} (h : HoldsK enc k w g 0 d) (hg : g < w.heap.size) : Reads w w.heap.size k (some ⟨g, 0, none⟩) d.size (d.toList.flatMap enc) := by
  have hfl : (d.toList.flatMap enc).length = d.size * k := by rw [flat_length hk]; simp
  refine ⟨hfl, fun _ => ⟨g, 0, rfl, hg, fun j u hu => ?_⟩⟩
  have hj := (List.getElem?_eq_some_iff.1 hu).1
  rw [hfl] at hj
  have hq : j / k < d.size := (Nat.div_lt_iff_lt_mul h0).2 hj
  have hm := Nat.mod_lt j h0
  obtain ⟨x, hx⟩ : ∃ x, d.toList[j / k]? = some x := ⟨_, List.getElem?_eq_getElem (by simpa using hq)⟩
  have hxa : d[j / k]! = x := by
    obtain ⟨h1, h2⟩ := List.getElem?_eq_some_iff.1 hx
    rw [getElem!_pos d (j / k) hq]
    simpa using h2
  have hjj : j / k * k + j % k = j := by rw [Nat.mul_comm]; exact Nat.div_add_mod j k
  have hf := flat_get (enc := enc) (k := k) hk d.toList (j / k) (j % k) x hx hm
  rw [hjj] at hf
  have hlen : (enc x)[j % k]? = some (enc x)[j % k]! := by
    rw [getElem!_pos (enc x) (j % k) (by rw [hk]; exact hm)]
    exact List.getElem?_eq_getElem _
  have hu' : (enc x)[j % k]? = some u := by rw [← hf]; exact hu
  have hc := (HoldsK.cell h (i := j / k) (c := j % k) hq hm).1
  rw [hxa, show 0 + j / k * k + j % k = 0 + j by omega] at hc
  rw [hc]
  rw [hlen] at hu'
  exact hu'
omit hk h0
theorem below_sortG {w : World} {g m : Nat} {d : Array α} {os : Array Obj} : Bar w.heap.size [g] w (sortWorldK enc k w g 0 m d os) where
  os := rfl
  tape := rfl
  output := rfl
  size := by unfold sortWorldK; rw [size_grow]; show _ ≤ (putRow id (Sort.ahead w m) g 0 _).heap.size + _; rw [size_putRow]; show w.heap.size ≤ w.heap.size + _; omega
  block i hi hX := by
    show ((w.heap.modify g _) ++ os)[i]? = _
    rw [Array.getElem?_append]
    split
    · rw [Array.getElem?_modify, if_neg (by simpa using fun e => hX (by simp [e]))]
    · rename_i hn
      rw [Array.size_modify] at hn
      omega
end
end Go.Proofs.YtiioiajcoiaalaaGreatDoor
