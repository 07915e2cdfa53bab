/-
  Plain laws of a bag's numbers: the row that a search finds, the sum of all numbers, wholeness.
-/
import Derived.Test.YtoapjidpfghnlaaGreatDoorBgP1
namespace Go.Proofs.YtoapjidpfghnlaaGreatDoor

/-- Item i has row r: the look is its number. -/
theorem look_found {d : Bg} (h : okBag d = true) {r : Rw} (hr : okR r = true) {i : Nat} {x : Rw × Int} (hx : d[i]? = some x) (hc : cmpR x.1 r = 0) : look d r = x.2 := by
  have ha := (okBag_asc h).1
  have hm := List.mem_of_getElem? hx
  have e : x.1 = r := okR_eq (ha.ok x hm) hr hc
  subst e
  exact look_mem ha hm
theorem look_no {d : Bg} {r : Rw} (hn : ∀ (i : Nat) (x : Rw × Int), d[i]? = some x → cmpR x.1 r ≠ 0) : look d r = 0 := by
  refine look_far fun x hx e => ?_
  obtain ⟨i, hi⟩ := List.mem_iff_getElem?.1 hx
  exact hn i x hi (by rw [e]; exact Tot.row.self r)
theorem asc_lt {d : Bg} (h : Asc d) {i j : Nat} {x y : Rw × Int} (hij : i < j) (hx : d[i]? = some x) (hy : d[j]? = some y) : cmpR x.1 y.1 < 0 := by
  obtain ⟨hi, rfl⟩ := List.getElem?_eq_some_iff.1 hx
  obtain ⟨hj, rfl⟩ := List.getElem?_eq_some_iff.1 hy
  exact List.pairwise_iff_getElem.1 h.up i j hi hj hij
/-- What lies left of a place is below the row, what lies right of it is not. -/
structure Cut (d : Bg) (r : Rw) (i j : Nat) : Prop where
  lo : ∀ (p : Nat) (x : Rw × Int), p < i → d[p]? = some x → cmpR x.1 r < 0
  hi : ∀ (p : Nat) (x : Rw × Int), j ≤ p → d[p]? = some x → 0 ≤ cmpR x.1 r
theorem Cut.left {d : Bg} (h : Asc d) {r : Rw} {i j m : Nat} (c : Cut d r i j) {x : Rw × Int} (hx : d[m]? = some x) (hc : cmpR x.1 r < 0) : Cut d r (m + 1) j :=
  ⟨fun p y hp hy => by
    by_cases e : p = m
    · subst e
      rw [hx] at hy
      injection hy with hy
      rw [← hy]; exact hc
    · exact Tot.row.lt1 _ _ _ (asc_lt h (by omega) hy hx) (Int.le_of_lt hc), c.hi⟩
theorem Cut.right {d : Bg} (h : Asc d) {r : Rw} {i j m : Nat} (c : Cut d r i j) {x : Rw × Int} (hx : d[m]? = some x) (hc : 0 ≤ cmpR x.1 r) : Cut d r i m :=
  ⟨c.lo, fun p y hp hy => by
    by_cases e : p = m
    · subst e
      rw [hx] at hy
      injection hy with hy
      rw [← hy]; exact hc
    · refine Int.not_lt.1 fun hl => ?_
      have := Tot.row.lt1 _ _ _ (asc_lt h (show m < p by omega) hx hy) (Int.le_of_lt hl)
      omega⟩
/-- Nothing there. -/
theorem Cut.none {d : Bg} (h : Asc d) {r : Rw} {i : Nat} (c : Cut d r i i) (hn : ∀ x, d[i]? = some x → cmpR x.1 r ≠ 0) : look d r = 0 := by
  refine look_no fun p x hx e => ?_
  rcases Nat.lt_trichotomy p i with hp | hp | hp
  · have := c.lo p x hp hx; omega
  · subst hp; exact hn x hx e
  · obtain ⟨hp', _⟩ := List.getElem?_eq_some_iff.1 hx
    obtain ⟨y, hy⟩ : ∃ y, d[i]? = some y := ⟨_, List.getElem?_eq_getElem (by omega)⟩
    have h1 := asc_lt h hp hy hx
    have h2 := c.hi i y (Nat.le_refl _) hy
    have := Tot.row.lt1 _ _ _ h1 (show cmpR x.1 r ≤ 0 by omega)
    omega

/-- The sum of all numbers. -/
def tot : Bg → Int
  | [] => 0
  | x :: l => x.2 + tot l
theorem tot_snoc (l : Bg) (x : Rw × Int) : tot (l ++ [x]) = tot l + x.2 := by
  induction l with
  | nil => simp [tot]
  | cons y l ih => rw [List.cons_append, tot, tot, ih]; omega
theorem tot_bound {l : Bg} (h : ∀ x ∈ l, numB x.2 = true) : -1000000 * (l.length : Int) ≤ tot l ∧ tot l ≤ 1000000 * (l.length : Int) := by
  induction l with
  | nil => simp [tot]
  | cons y l ih =>
    have h1 := numB_ne (h y List.mem_cons_self)
    have h2 := ih fun x hx => h x (List.mem_cons_of_mem _ hx)
    rw [tot, List.length_cons]
    omega
theorem tot_next {d : Bg} (h : okBag d = true) {k : Nat} {x : Rw × Int} (hx : d[k]? = some x) : tot (d.take (k + 1)) = tot (d.take k) + x.2 ∧ -400000000 ≤ tot (d.take (k + 1)) ∧ tot (d.take (k + 1)) ≤ 400000000 := by
  have e : tot (d.take (k + 1)) = tot (d.take k) + x.2 := by rw [take_snoc' hx, tot_snoc]
  obtain ⟨_, h2, h3⟩ := okBag_asc h
  have hb := tot_bound (l := d.take (k + 1)) fun y hy => h2 y (List.mem_of_mem_take hy)
  have hl : (d.take (k + 1)).length ≤ 400 := by rw [List.length_take]; omega
  omega
/-- No number below 0. -/
def posB (d : Bg) : Bool := d.all fun x => decide (0 ≤ x.2)
theorem posB_neg {d : Bg} {k : Nat} {x : Rw × Int} (hx : d[k]? = some x) (hn : x.2 < 0) : posB d = false := by
  unfold posB
  rw [Bool.eq_false_iff]
  intro h
  have := of_decide_eq_true (List.all_eq_true.1 h x (List.mem_of_getElem? hx))
  omega
theorem posB_next {d : Bg} {k : Nat} {x : Rw × Int} (hx : d[k]? = some x) (hn : 0 ≤ x.2) (h : posB (d.take k) = true) : posB (d.take (k + 1)) = true := by
  unfold posB at *
  rw [take_snoc' hx, List.all_append, h]
  simpa using hn
end Go.Proofs.YtoapjidpfghnlaaGreatDoor
