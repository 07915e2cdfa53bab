/-
  What RankKeeps asks, in plain Lean: a ranking that is told one change after the other. No program in sight; no condition.
-/
import Derived.Test.YtljglceaibgknaaGreatDoorRlM
import Derived.Test.YtljglceaibgknaaGreatDoorNetM
import Derived.Test.YtljglceaibgknaaGreatDoorApl
namespace Go.Proofs.YtljglceaibgknaaGreatDoor
open Go.RowKit
set_option linter.unusedVariables false

/-- The error of a change that is told. -/
def tellE (width : Int) (d : Bg) (t : Int) (r : Rw) (m : Int) : Int := if okCh t r m && ((r.length : Int) == width) then (if look d r + m < 0 then 10 else if okBag (putB d r m) then 0 else 4) else 1
/-- All rows behind it. -/
def tellD (width : Int) (d : Bg) (t : Int) (r : Rw) (m : Int) : Bg := if tellE width d t r m = 0 then putB d r m else d
/-- What it makes of the first places. -/
def tellC (s : Stp) (width : Int) (d : Bg) (t : Int) (r : Rw) (m : Int) : Bg := if tellE width d t r m = 0 then plusB (topB s (putB d r m)) (topB s d) (-1) else []
/-- All rows of a ranking behind some changes. -/
structure Kept (s : Stp) (width : Int) (d : Bg) (q : Nat) : Prop where
  s0 : okS s width = true
  bag : okBag d = true
  len : ∀ x ∈ d, (x.1.length : Int) = width
  pos : ∀ x ∈ d, 0 < x.2
  cnt : d.length ≤ q
theorem Kept.nil {s : Stp} {width : Int} (h : okS s width = true) : Kept s width [] 0 := ⟨h, rfl, nofun, nofun, Nat.le_refl _⟩
theorem Kept.ask {s : Stp} {width : Int} {d : Bg} {q : Nat} (h : Kept s width d q) : askE s width d = 0 := by
  have hf : fitB d width = true := by
    unfold fitB
    rw [h.bag, Bool.true_and, Bool.not_eq_true', List.any_eq_false]
    intro x hx
    have := h.len x hx
    simpa using this
  have hw : wholeB d = true := by
    unfold wholeB posB
    rw [h.bag, Bool.true_and, List.all_eq_true]
    intro x hx
    have := h.pos x hx
    simp
    omega
  unfold askE
  rw [h.s0, hf, hw]
  rfl
theorem tell_in {width : Int} {d : Bg} {t : Int} {r : Rw} {m : Int} (h : tellE width d t r m = 0) : okCh t r m = true ∧ (r.length : Int) = width ∧ 0 ≤ look d r + m ∧ okBag (putB d r m) = true := by
  unfold tellE at h
  split at h
  · rename_i h1
    rw [Bool.and_eq_true, beq_iff_eq] at h1
    split at h
    · cases h
    · rename_i h2
      split at h
      · rename_i h3
        exact ⟨h1.1, h1.2, by omega, h3⟩
      · cases h
  · cases h
theorem okCh_in {t : Int} {r : Rw} {m : Int} (h : okCh t r m = true) : btw t (-1000000000000) 1000000000000 = true ∧ okR r = true ∧ numB m = true := by
  unfold okCh at h
  rw [Bool.and_eq_true, Bool.and_eq_true] at h
  exact ⟨h.1.1, h.1.2, h.2⟩
theorem Kept.put {s : Stp} {width : Int} {d : Bg} {q : Nat} (h : Kept s width d q) {t : Int} {r : Rw} {m : Int} (h0 : tellE width d t r m = 0) : Kept s width (putB d r m) (q + 1) := by
  obtain ⟨h1, h2, h3, h4⟩ := tell_in h0
  obtain ⟨_, hr, _⟩ := okCh_in h1
  obtain ⟨d1, d2, d3⟩ := okBag_asc h.bag
  have hz : ∀ x ∈ d, x.2 ≠ 0 := fun x hx => (numB_ne (d2 x hx)).1
  obtain ⟨i1, i2, i3⟩ := ins_ok hr m d1 hz
  have he : putB d r m = insB r m d := putB_ins d1.up
  have hval : ∀ x ∈ putB d r m, x.2 = if r = x.1 then look d r + m else look d x.1 := fun x hx => by
    rw [← i3, ← he, look_in (asc_apart (okBag_asc h4).1) hx]
  have hfrom : ∀ x ∈ putB d r m, r = x.1 ∨ ∃ y ∈ d, y.1 = x.1 := fun x hx => by
    by_cases e : r = x.1
    · exact .inl e
    · right
      by_cases hc : ∃ y ∈ d, y.1 = x.1
      · exact hc
      · have h5 := hval x hx
        rw [if_neg e, look_far fun y hy ey => hc ⟨y, hy, ey⟩] at h5
        exact absurd h5 (i2 x (he ▸ hx))
  refine ⟨h.s0, h4, fun x hx => ?_, fun x hx => ?_, ?_⟩
  · rcases hfrom x hx with e | ⟨y, hy, e⟩
    · rw [← e]; exact h2
    · rw [← e]; exact h.len y hy
  · have h5 := hval x hx
    have h6 := i2 x (he ▸ hx)
    by_cases e : r = x.1
    · rw [if_pos e] at h5
      omega
    · rw [if_neg e] at h5
      rcases hfrom x hx with e2 | ⟨y, hy, e2⟩
      · exact absurd e2 e
      · rw [← e2, look_in (asc_apart d1) hy] at h5
        have := h.pos y hy
        omega
  · have := put_len d1 r m
    have := h.cnt
    omega
theorem Kept.tell {s : Stp} {width : Int} {d : Bg} {q : Nat} (h : Kept s width d q) (t : Int) (r : Rw) (m : Int) : Kept s width (tellD width d t r m) (q + 1) := by
  unfold tellD
  split
  · rename_i h0
    exact h.put h0
  · exact ⟨h.s0, h.bag, h.len, h.pos, by have := h.cnt; omega⟩
theorem Kept.top {s : Stp} {width : Int} {d : Bg} {q : Nat} (h : Kept s width d q) : okBag (topB s d) = true ∧ (topB s d).length ≤ q := by
  have ha := ask_ok h.ask
  obtain ⟨gs, hg⟩ := ha.groups
  obtain ⟨h1, h2⟩ := Go.Proofs.YtljglceaibgknaaGreatDoor.top_ok hg ha.bag ha.pos (by have := ha.s0; omega)
  refine ⟨h1, ?_⟩
  rw [h2.length_eq]
  have h3 := caps_len s.n gs
  have h4 := hg.perm.length_eq
  have h5 := h.cnt
  omega
theorem Kept.toppos {s : Stp} {width : Int} {d : Bg} {q : Nat} (h : Kept s width d q) : ∀ x ∈ topB s d, 0 < x.2 ∧ x.2 ≤ 1000000 := fun x hx => by
  have ha := ask_ok h.ask
  obtain ⟨gs, hg⟩ := ha.groups
  obtain ⟨h1, h2⟩ := Go.Proofs.YtljglceaibgknaaGreatDoor.top_ok hg ha.bag ha.pos (by have := ha.s0; omega)
  obtain ⟨g, _, hk⟩ := List.mem_flatMap.1 (h2.mem_iff.1 hx)
  obtain ⟨_, _, _, e, _⟩ := cap_mem hk
  have := numB_ne ((okBag_asc h1).2.1 x hx)
  exact ⟨e, this.2.2⟩
theorem look_pos {b : Bg} (h : ∀ x ∈ b, 0 < x.2 ∧ x.2 ≤ 1000000) (r : Rw) : 0 ≤ look b r ∧ look b r ≤ 1000000 := by
  induction b with
  | nil => exact ⟨Int.le_refl 0, by show (0 : Int) ≤ 1000000; omega⟩
  | cons x b ih =>
    have h1 := ih fun y hy => h y (List.mem_cons_of_mem _ hy)
    have h2 := h x List.mem_cons_self
    rw [look]
    split
    · omega
    · exact h1
/-- What changes between two Tops is a valid bag. -/
theorem Kept.diff {s : Stp} {width : Int} {d d' : Bg} {q q' : Nat} (h : Kept s width d q) (h' : Kept s width d' q') (hq : q + q' ≤ 400) : okBag (plusB (topB s d') (topB s d) (-1)) = true := by
  obtain ⟨a1, a2⟩ := h.top
  obtain ⟨b1, b2⟩ := h'.top
  obtain ⟨i1, i2, i3⟩ := plus_ok (n := -1) (okBag_asc b1).1 (fun x hx => (numB_ne ((okBag_asc b1).2.1 x hx)).1) (okBag_asc a1).1
  refine okBag_of i1 (fun x hx => ?_) ?_
  · have e : x.2 = look (topB s d') x.1 + -1 * look (topB s d) x.1 := by rw [← i3, look_in (asc_apart i1) hx]
    have p1 := look_pos h.toppos x.1
    have p2 := look_pos h'.toppos x.1
    have hz := i2 x hx
    unfold numB
    simp
    omega
  · have hs : (plusB (topB s d') (topB s d) (-1)).map (·.1) ⊆ (topB s d' ++ topB s d).map (·.1) := fun r hr => by
      obtain ⟨x, hx, rfl⟩ := List.mem_map.1 hr
      have e : x.2 = look (topB s d') x.1 + -1 * look (topB s d) x.1 := by rw [← i3, look_in (asc_apart i1) hx]
      by_cases hc : ∃ y ∈ topB s d' ++ topB s d, y.1 = x.1
      · obtain ⟨y, hy, ey⟩ := hc
        exact List.mem_map.2 ⟨y, hy, ey⟩
      · rw [look_far fun y hy ey => hc ⟨y, List.mem_append.2 (.inl hy), ey⟩, look_far fun y hy ey => hc ⟨y, List.mem_append.2 (.inr hy), ey⟩] at e
        exact absurd e (i2 x hx)
    have hn : ((plusB (topB s d') (topB s d) (-1)).map (·.1)).Nodup := by
      unfold List.Nodup
      rw [List.pairwise_map]
      exact asc_apart i1
    have := List.Nodup.length_le_of_subset hn hs
    simp only [List.length_map, List.length_append] at this
    omega
/-- The changes make one Top of the other. -/
theorem Kept.after {s : Stp} {width : Int} {d d' : Bg} {q q' : Nat} (h : Kept s width d q) (h' : Kept s width d' q') : aftB (topB s d) (plusB (topB s d') (topB s d) (-1)) = topB s d' := by
  obtain ⟨a1, a2⟩ := h.top
  obtain ⟨b1, b2⟩ := h'.top
  obtain ⟨i1, i2, i3⟩ := plus_ok (n := -1) (okBag_asc b1).1 (fun x hx => (numB_ne ((okBag_asc b1).2.1 x hx)).1) (okBag_asc a1).1
  have k := aft_ok (b := topB s d) (l := plusB (topB s d') (topB s d) (-1)) i1.ok (okBag_asc a1).1 fun x hx => (numB_ne ((okBag_asc a1).2.1 x hx)).1
  refine Asc.ext k.asc (okBag_asc b1).1 k.ne (fun x hx => (numB_ne ((okBag_asc b1).2.1 x hx)).1) fun r => ?_
  rw [k.sum, sumG_app, sumG_asc (okBag_asc a1).1, sumG_asc i1, i3]
  omega
end Go.Proofs.YtljglceaibgknaaGreatDoor
