/-
  The iterator that bag.made hands out: each item of a list through a function; those with 0 are left out. Whatever the function.
  Plain laws of a bag's numbers: the row that a search finds, the sum of all numbers, wholeness.
  The walks of Whole on both sides, for every bag.
  The walks of Total on both sides, for every bag.
-/
import Derived.Test.YtoapjidpfghnlaaGreatDoorApl
import Derived.Test.YtoapjidpfghnlaaGreatDoorBgP1
namespace Go.Proofs.YtoapjidpfghnlaaGreatDoor

section
open Go.RowKit
attribute [local go_sem] Oper.semAt_some wide_fn wide_depth
set_option linter.unusedVariables false
set_option linter.unusedSimpArgs false

/-- Items through a function; those with 0 are left out. -/
def mk (g : Rw × Int → Rw × Int) (d : Bg) : Bg := (d.map g).filter fun x => decide (x.2 ≠ 0)
theorem IterGF.g {F : Fence} {n : Nat} {P : Program} {α : Type} {g : Nat} {lb : Array Value} {Arg : α → Array Value → World → Prop} {xs : List α} {Wr Kp : World → World → Prop} {Fin : World → Prop} {W : World} (h : IterGF F n P g lb Arg xs Wr Kp Fin W) : IterG F n P g lb Arg xs Wr Kp W :=
  fun l J Jx h1 h2 h3 h4 => (h l J Jx h1 h2 h3 h4).mono fun _ _ h => ⟨h.1, h.2.imp (fun h => h.1) id⟩
end

section
/-- Item i has row r: the look is its number. -/
theorem look_found {d : Bg} (h : okBag d = true) {r : Rw} (hr : okR r = true) {i : Nat} {x : Rw × Int} (hx : d[i]? = some x) (hc : cmpR x.1 r = 0) : look d r = x.2 := by
  have ha := (okBag_asc h).1
  have hm := List.mem_of_getElem? hx
  have e : x.1 = r := okR_eq (ha.ok x hm) hr hc
  subst e
  exact look_mem ha hm
theorem look_no {d : Bg} {r : Rw} (hn : ∀ (i : Nat) (x : Rw × Int), d[i]? = some x → cmpR x.1 r ≠ 0) : look d r = 0 := by
  refine look_far fun x hx e => ?_
  obtain ⟨i, hi⟩ := List.mem_iff_getElem?.1 hx
  exact hn i x hi (by rw [e]; exact Tot.row.self r)
theorem asc_lt {d : Bg} (h : Asc d) {i j : Nat} {x y : Rw × Int} (hij : i < j) (hx : d[i]? = some x) (hy : d[j]? = some y) : cmpR x.1 y.1 < 0 := by
  obtain ⟨hi, rfl⟩ := List.getElem?_eq_some_iff.1 hx
  obtain ⟨hj, rfl⟩ := List.getElem?_eq_some_iff.1 hy
  exact List.pairwise_iff_getElem.1 h.up i j hi hj hij
/-- What lies left of a place is below the row, what lies right of it is not. -/
structure Cut (d : Bg) (r : Rw) (i j : Nat) : Prop where
  lo : ∀ (p : Nat) (x : Rw × Int), p < i → d[p]? = some x → cmpR x.1 r < 0
  hi : ∀ (p : Nat) (x : Rw × Int), j ≤ p → d[p]? = some x → 0 ≤ cmpR x.1 r
theorem Cut.left {d : Bg} (h : Asc d) {r : Rw} {i j m : Nat} (c : Cut d r i j) {x : Rw × Int} (hx : d[m]? = some x) (hc : cmpR x.1 r < 0) : Cut d r (m + 1) j :=
  ⟨fun p y hp hy => by
    by_cases e : p = m
    · subst e
      rw [hx] at hy
      injection hy with hy
      rw [← hy]; exact hc
    · exact Tot.row.lt1 _ _ _ (asc_lt h (by omega) hy hx) (Int.le_of_lt hc), c.hi⟩
theorem Cut.right {d : Bg} (h : Asc d) {r : Rw} {i j m : Nat} (c : Cut d r i j) {x : Rw × Int} (hx : d[m]? = some x) (hc : 0 ≤ cmpR x.1 r) : Cut d r i m :=
  ⟨c.lo, fun p y hp hy => by
    by_cases e : p = m
    · subst e
      rw [hx] at hy
      injection hy with hy
      rw [← hy]; exact hc
    · refine Int.not_lt.1 fun hl => ?_
      have := Tot.row.lt1 _ _ _ (asc_lt h (show m < p by omega) hx hy) (Int.le_of_lt hl)
      omega⟩
/-- Nothing there. -/
theorem Cut.none {d : Bg} (h : Asc d) {r : Rw} {i : Nat} (c : Cut d r i i) (hn : ∀ x, d[i]? = some x → cmpR x.1 r ≠ 0) : look d r = 0 := by
  refine look_no fun p x hx e => ?_
  rcases Nat.lt_trichotomy p i with hp | hp | hp
  · have := c.lo p x hp hx; omega
  · subst hp; exact hn x hx e
  · obtain ⟨hp', _⟩ := List.getElem?_eq_some_iff.1 hx
    obtain ⟨y, hy⟩ : ∃ y, d[i]? = some y := ⟨_, List.getElem?_eq_getElem (by omega)⟩
    have h1 := asc_lt h hp hy hx
    have h2 := c.hi i y (Nat.le_refl _) hy
    have := Tot.row.lt1 _ _ _ h1 (show cmpR x.1 r ≤ 0 by omega)
    omega

/-- The sum of all numbers. -/
def tot : Bg → Int
  | [] => 0
  | x :: l => x.2 + tot l
/-- No number below 0. -/
def posB (d : Bg) : Bool := d.all fun x => decide (0 ≤ x.2)
theorem posB_neg {d : Bg} {k : Nat} {x : Rw × Int} (hx : d[k]? = some x) (hn : x.2 < 0) : posB d = false := by
  unfold posB
  rw [Bool.eq_false_iff]
  intro h
  have := of_decide_eq_true (List.all_eq_true.1 h x (List.mem_of_getElem? hx))
  omega
theorem posB_next {d : Bg} {k : Nat} {x : Rw × Int} (hx : d[k]? = some x) (hn : 0 ≤ x.2) (h : posB (d.take k) = true) : posB (d.take (k + 1)) = true := by
  unfold posB at *
  rw [take_snoc' hx, List.all_append, h]
  simpa using hn
end

section
open Go.RowKit
attribute [local go_sem] Oper.semAt_some

theorem whole1_any (x : It) (w : World) : Calls Tryz.prog 142 #[.agg #[.slice x.A x.n x.c, .int .i64 x.m]] w (RetV w (.bool (decide (x.m < 0)))) := by
  have hB := below_val (w := w) #[.slice x.A x.n x.c, .int .i64 x.m] 119
  go_enter Tryz.func142, Tryz.ntmps142
  go_wp2
  go_ret
  exact ⟨rfl, hB⟩
set_option maxRecDepth 100000 in
set_option maxHeartbeats 2000000 in
theorem idx_bag (A : Option Addr) (n c B : Nat) (l : List It) (w : World) (hx : BagR w B A n l) :
    Calls Tryz.prog 188 #[.slice A n c, .func (Fn.func 142) #[] #[]] w fun e w' => (∃ i : Int, e = .returned (.int .i64 i) ∧ decide (0 ≤ i) = !posB (dat l)) ∧ Below w.heap.size w w' := by
  have hn := hx.le
  have HL := hide (show (dat l).length = n by rw [dat_len, hx.len])
  go_enter Tryz.func188, Tryz.ntmps188
  go_wp2_with fail
  go_loopw [8] (fun i wr => ∃ k : Nat, k ≤ n ∧ i = .int .i64 k ∧ posB ((dat l).take k) = true ∧ Below w.heap.size w wr) (fun i _ => n - (intOf i).toNat)
  case atStart => exact ⟨0, Nat.zero_le _, rfl, rfl, Below.refl _ _⟩
  case round =>
    obtain ⟨k, hk, rfl, hany, hBw⟩ := hrel
    have HA := hide hany
    clear hany
    by_cases hlt : k < n
    · obtain ⟨b, off, x, rfl, hb, hxk, c0, c1, hrow⟩ := (hx.below hBw).at_ hlt
      have HE := hide (dat_at hxk)
      clear hxk hrow
      have q1 : (0 : Int) ≤ (k : Int) := by omega
      have q2 : (k : Int) < (n : Int) := by omega
      go_wp2_with fail
      refine (whole1_any x wr).mono ?_
      rintro ee w1 ⟨rfl, hB1⟩
      have hB2 := bstep hBw hB1
      by_cases hq : x.m < 0
      · have z : decide (x.m < 0) = true := by simpa using hq
        have HX := hide (posB_neg HE.out hq)
        clear hq hB1 hBw c0 c1
        go_wp2
        go_ret
        exact ⟨⟨_, rfl, by rw [HX.out]; simp⟩, hB2⟩
      · have z : decide (x.m < 0) = false := by simpa using hq
        have HX := hide (posB_next HE.out (by simpa using hq) HA.out)
        clear hq hB1 hBw c0 c1
        go_wp2
        go_roundw
        case rel => exact ⟨k + 1, by omega, by go_num, HX.out, hB2⟩
        case measure => simp [intOf]; omega
    · obtain rfl : k = n := by omega
      go_wp2
      go_ret
      exact ⟨⟨_, rfl, by
        have := HA.out
        rw [take_all HL.out] at this
        rw [this]; rfl⟩, hBw⟩
theorem con_bag (A : Option Addr) (n c B : Nat) (l : List It) (w : World) (hx : BagR w B A n l) :
    Calls Tryz.prog 140 #[.slice A n c, .func (Fn.func 142) #[] #[]] w (RetV w (.bool (!posB (dat l)))) := by
  go_enter Tryz.func140, Tryz.ntmps140
  go_wp2_with (go_at_call 188; refine (idx_bag A n c B l w hx).mono ?_; rintro e w' ⟨⟨i, rfl, hi⟩, hB1⟩)
  go_ret
  exact ⟨rfl, hB1⟩
/-- What Whole tells. -/
def wholeB (d : Bg) : Bool := okBag d && posB d
theorem Whole_any (A : Option Addr) (n c B : Nat) (l : List It) (w : World) (hx : BagR w B A n l) : Calls Tryz.prog 93 #[.slice A n c] w (RetV w (.bool (wholeB (dat l)))) := by
  obtain ⟨p, hp⟩ : ∃ p, wholeB (dat l) = p := ⟨_, rfl⟩
  have HP := hide hp
  rw [hp]
  clear hp
  go_enter Tryz.func93, Tryz.ntmps93
  go_wp2_with fail
  refine (BagValid_any A n c B l w hx).mono ?_
  rintro e W1 ⟨rfl, hB1⟩
  cases ho : okBag (dat l)
  · have HX := hide (show false = p by rw [← HP.out]; unfold wholeB; rw [ho]; rfl)
    clear ho
    go_wp2
    go_ret
    exact ⟨ret_bool HX.out, hB1⟩
  · go_wp2_with fail
    refine (con_bag A n c B l W1 (hx.below hB1)).mono ?_
    rintro e W2 ⟨rfl, hB2⟩
    have HB := hide (bstep hB1 hB2)
    cases hq : posB (dat l)
    · have HX := hide (show false = p by rw [← HP.out]; unfold wholeB; rw [ho, hq]; rfl)
      clear ho hq hB1 hB2
      go_wp2
      go_ret
      exact ⟨ret_bool HX.out, HB.out⟩
    · have HX := hide (show true = p by rw [← HP.out]; unfold wholeB; rw [ho, hq]; rfl)
      clear ho hq hB1 hB2
      go_wp2
      go_ret
      exact ⟨ret_bool HX.out, HB.out⟩
end

section
open Go.RowKit
attribute [local go_sem] Oper.semAt_some

/-- What Total tells. -/
def totB (d : Bg) : Int := if okBag d then tot d else 0
end

end Go.Proofs.YtoapjidpfghnlaaGreatDoor
