/-
  The iterator that bag.made hands out: each item of a list through a function; those with 0 are left out. Whatever the function.
  Plain laws of a bag's numbers: the row that a search finds, the sum of all numbers, wholeness.
  The walks of Whole on both sides, for every bag.
  The walks of Total on both sides, for every bag.
-/
import Derived.Test.YtoapjidpfghnlaaGreatDoorApl
import Derived.Test.YtoapjidpfghnlaaGreatDoorBgP2
namespace Go.Proofs.YtoapjidpfghnlaaGreatDoor

section
open Go.RowKit
attribute [local go_sem] Oper.semAt_some wide_fn wide_depth
set_option linter.unusedVariables false
set_option linter.unusedSimpArgs false

/-- Items through a function; those with 0 are left out. -/
def mk (g : Rw × Int → Rw × Int) (d : Bg) : Bg := (d.map g).filter fun x => decide (x.2 ≠ 0)
theorem IterGF.g {F : Fence} {n : Nat} {P : Program} {α : Type} {g : Nat} {lb : Array Value} {Arg : α → Array Value → World → Prop} {xs : List α} {Wr Kp : World → World → Prop} {Fin : World → Prop} {W : World} (h : IterGF F n P g lb Arg xs Wr Kp Fin W) : IterG F n P g lb Arg xs Wr Kp W :=
  fun l J Jx h1 h2 h3 h4 => (h l J Jx h1 h2 h3 h4).mono fun _ _ h => ⟨h.1, h.2.imp (fun h => h.1) id⟩
end

section
theorem look_no {d : Bg} {r : Rw} (hn : ∀ (i : Nat) (x : Rw × Int), d[i]? = some x → cmpR x.1 r ≠ 0) : look d r = 0 := by
  refine look_far fun x hx e => ?_
  obtain ⟨i, hi⟩ := List.mem_iff_getElem?.1 hx
  exact hn i x hi (by rw [e]; exact Tot.row.self r)
theorem asc_lt {d : Bg} (h : Asc d) {i j : Nat} {x y : Rw × Int} (hij : i < j) (hx : d[i]? = some x) (hy : d[j]? = some y) : cmpR x.1 y.1 < 0 := by
  obtain ⟨hi, rfl⟩ := List.getElem?_eq_some_iff.1 hx
  obtain ⟨hj, rfl⟩ := List.getElem?_eq_some_iff.1 hy
  exact List.pairwise_iff_getElem.1 h.up i j hi hj hij
/-- What lies left of a place is below the row, what lies right of it is not. -/
structure Cut (d : Bg) (r : Rw) (i j : Nat) : Prop where
  lo : ∀ (p : Nat) (x : Rw × Int), p < i → d[p]? = some x → cmpR x.1 r < 0
  hi : ∀ (p : Nat) (x : Rw × Int), j ≤ p → d[p]? = some x → 0 ≤ cmpR x.1 r
/-- Nothing there. -/
theorem Cut.none {d : Bg} (h : Asc d) {r : Rw} {i : Nat} (c : Cut d r i i) (hn : ∀ x, d[i]? = some x → cmpR x.1 r ≠ 0) : look d r = 0 := by
  refine look_no fun p x hx e => ?_
  rcases Nat.lt_trichotomy p i with hp | hp | hp
  · have := c.lo p x hp hx; omega
  · subst hp; exact hn x hx e
  · obtain ⟨hp', _⟩ := List.getElem?_eq_some_iff.1 hx
    obtain ⟨y, hy⟩ : ∃ y, d[i]? = some y := ⟨_, List.getElem?_eq_getElem (by omega)⟩
    have h1 := asc_lt h hp hy hx
    have h2 := c.hi i y (Nat.le_refl _) hy
    have := Tot.row.lt1 _ _ _ h1 (show cmpR x.1 r ≤ 0 by omega)
    omega

/-- The sum of all numbers. -/
def tot : Bg → Int
  | [] => 0
  | x :: l => x.2 + tot l
/-- No number below 0. -/
def posB (d : Bg) : Bool := d.all fun x => decide (0 ≤ x.2)
end

section
open Go.RowKit
attribute [local go_sem] Oper.semAt_some

/-- What Whole tells. -/
def wholeB (d : Bg) : Bool := okBag d && posB d
end

section
open Go.RowKit
attribute [local go_sem] Oper.semAt_some

/-- What Total tells. -/
def totB (d : Bg) : Int := if okBag d then tot d else 0
end

end Go.Proofs.YtoapjidpfghnlaaGreatDoor
