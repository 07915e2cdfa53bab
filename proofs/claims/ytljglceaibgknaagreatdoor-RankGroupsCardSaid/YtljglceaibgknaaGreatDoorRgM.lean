/-
  What RankGroups asks, in plain Lean: the groups together are the bag, their tops together are Top. No program in sight; no condition.
-/
import Derived.Test.YtljglceaibgknaaGreatDoorRlM
import Derived.Test.YtljglceaibgknaaGreatDoorRkW
namespace Go.Proofs.YtljglceaibgknaaGreatDoor
open Go.RowKit
set_option linter.unusedVariables false

/-- What Groups answers. -/
def grpE (s : Stp) (width : Int) (b : Bg) : List Bg × Int := if askE s width b = 0 then (grpF s b, 0) else ([], askE s width b)
/-- All bags of a list together. -/
def sumB (l : List Bg) : Bg := l.foldl (fun o g => plusB o g 1) []
theorem sumB_snoc (l : List Bg) (g : Bg) : sumB (l ++ [g]) = plusB (sumB l) g 1 := by simp [sumB]
theorem sumB_ok {l : List Bg} (h : ∀ g ∈ l, Asc g) : Asc (sumB l) ∧ (∀ x ∈ sumB l, x.2 ≠ 0) ∧ ∀ r, look (sumB l) r = sumG l.flatten r := by
  have gen : ∀ (l : List Bg) (o : Bg), Asc o → (∀ x ∈ o, x.2 ≠ 0) → (∀ g ∈ l, Asc g) → Asc (l.foldl (fun o g => plusB o g 1) o) ∧ (∀ x ∈ l.foldl (fun o g => plusB o g 1) o, x.2 ≠ 0) ∧ ∀ r, look (l.foldl (fun o g => plusB o g 1) o) r = look o r + sumG l.flatten r := by
    intro l
    induction l with
    | nil => intro o h1 h2 _; exact ⟨h1, h2, fun r => by show look o r = look o r + 0; omega⟩
    | cons g l ih =>
      intro o h1 h2 h3
      have hg := h3 g List.mem_cons_self
      obtain ⟨p1, p2, p3⟩ := plus_ok (n := 1) h1 h2 hg
      obtain ⟨q1, q2, q3⟩ := ih _ p1 p2 fun k hk => h3 k (List.mem_cons_of_mem _ hk)
      refine ⟨q1, q2, fun r => ?_⟩
      rw [List.foldl_cons, q3, p3, List.flatten_cons, sumG_app, sumG_asc hg]
      omega
  obtain ⟨h1, h2, h3⟩ := gen l [] Asc.nil nofun h
  exact ⟨h1, h2, fun r => by have := h3 r; rw [show look ([] : Bg) r = 0 from rfl, Int.zero_add] at this; exact this⟩
theorem sumG_pos {l : Bg} (h : ∀ x ∈ l, 0 < x.2) (r : Rw) : 0 ≤ sumG l r ∧ (sumG l r ≠ 0 → ∃ x ∈ l, x.1 = r) := by
  induction l with
  | nil => exact ⟨Int.le_refl 0, fun h => absurd rfl h⟩
  | cons x l ih =>
    obtain ⟨h1, h2⟩ := ih fun y hy => h y (List.mem_cons_of_mem _ hy)
    have hx := h x List.mem_cons_self
    have e : sumG (x :: l) r = (if x.1 = r then x.2 else 0) + sumG l r := by
      rw [show x :: l = [x] ++ l from rfl, sumG_app, sumG_one]
    rw [e]
    constructor
    · split <;> omega
    · intro hne
      by_cases hc : x.1 = r
      · exact ⟨x, List.mem_cons_self, hc⟩
      · rw [if_neg hc, Int.zero_add] at hne
        obtain ⟨y, hy, ey⟩ := h2 hne
        exact ⟨y, List.mem_cons_of_mem _ hy, ey⟩
/-- Some of the lists of items that a bag is made of. -/
theorem part_big {b : Bg} {l rest : List Bg} (hb : okBag b = true) (hpos : ∀ x ∈ (l ++ rest).flatten, 0 < x.2) (hasc : ∀ g ∈ l, Asc g) (hle : ∀ r, sumG (l ++ rest).flatten r ≤ look b r) (hrow : ∀ x ∈ (l ++ rest).flatten, ∃ y ∈ b, y.1 = x.1) : BigB (sumB l) := by
  obtain ⟨h1, h2, h3⟩ := sumB_ok hasc
  obtain ⟨b1, b2, b3⟩ := okBag_asc hb
  have hin : ∀ x ∈ l.flatten, x ∈ (l ++ rest).flatten := fun x hx => by rw [List.flatten_append]; exact List.mem_append.2 (.inl hx)
  have hval : ∀ x ∈ sumB l, x.2 = sumG l.flatten x.1 := fun x hx => by rw [← h3, look_in (asc_apart h1) hx]
  have hfrom : ∀ x ∈ sumB l, ∃ y ∈ b, y.1 = x.1 := fun x hx => by
    have h4 := h2 x hx
    rw [hval x hx] at h4
    obtain ⟨z, hz, ez⟩ := (sumG_pos (fun z hz => hpos z (hin z hz)) x.1).2 h4
    obtain ⟨y, hy, ey⟩ := hrow z (hin z hz)
    exact ⟨y, hy, ey.trans ez⟩
  refine ⟨h1, fun x hx => ?_, ?_⟩
  · have h4 := (sumG_pos (fun z hz => hpos z (hin z hz)) x.1).1
    have h5 := hle x.1
    rw [List.flatten_append, sumG_app] at h5
    have h6 := (sumG_pos (l := rest.flatten) (fun z hz => hpos z (by rw [List.flatten_append]; exact List.mem_append.2 (.inr hz))) x.1).1
    have h7 := hval x hx
    have h8 := h2 x hx
    obtain ⟨y, hy, ey⟩ := hfrom x hx
    rw [← ey, look_in (asc_apart b1) hy, ey] at h5
    have h9 := numB_ne (b2 y hy)
    unfold numB
    simp
    omega
  · have hs : (sumB l).map (·.1) ⊆ b.map (·.1) := fun r hr => by
      obtain ⟨x, hx, rfl⟩ := List.mem_map.1 hr
      obtain ⟨y, hy, ey⟩ := hfrom x hx
      exact List.mem_map.2 ⟨y, hy, ey⟩
    have hn : ((sumB l).map (·.1)).Nodup := by
      unfold List.Nodup
      rw [List.pairwise_map]
      exact asc_apart h1
    have := List.Nodup.length_le_of_subset hn hs
    rw [List.length_map, List.length_map] at this
    omega
theorem sumG_flat_aft {gs : List Bg} (h : ∀ g ∈ gs, ∀ x ∈ g, okR x.1 = true) (r : Rw) : sumG (gs.map (aftB [])).flatten r = sumG gs.flatten r := by
  induction gs with
  | nil => rfl
  | cons g gs ih =>
    rw [List.map_cons, List.flatten_cons, List.flatten_cons, sumG_app, sumG_app, ih fun k hk => h k (List.mem_cons_of_mem _ hk), sumG_aft (h g List.mem_cons_self)]
/-- All that RankGroups asks of the groups x of a bag. -/
structure GrpLaw (s : Stp) (width : Int) (b : Bg) (x : List Bg) : Prop where
  len : x.length ≤ 400
  ok : ∀ g ∈ x, okBag g = true
  ask : ∀ g ∈ x, askE s width g = 0
  all : ∀ k, BigB (sumB (x.take k))
  alle : sumB x = b
  tops : ∀ k, BigB (sumB ((x.take k).map (topB s)))
  tope : sumB (x.map (topB s)) = topB s b
theorem Askd.sub {s : Stp} {width : Int} {b g : Bg} (h : Askd s width b) (ho : askE s width b = 0) (hg : okBag g = true) (hm : ∀ x ∈ g, x ∈ b) : askE s width g = 0 := by
  unfold askE at ho ⊢
  split at ho
  · rename_i h1
    rw [Bool.and_eq_true] at h1
    have hf : fitB g width = true := by
      unfold fitB
      rw [hg, Bool.true_and, Bool.not_eq_true', List.any_eq_false]
      intro x hx
      have := h.len x (hm x hx)
      simpa using this
    have hw : wholeB g = true := by
      unfold wholeB posB
      rw [hg, Bool.true_and, List.all_eq_true]
      intro x hx
      have := h.pos x (hm x hx)
      simp
      omega
    rw [h1.1, hf, hw]; rfl
  · cases ho
theorem grp_law {s : Stp} {width : Int} {b : Bg} (ho : askE s width b = 0) : GrpLaw s width b (grpF s b) := by
  have h := ask_ok ho
  obtain ⟨gs, hg⟩ := h.groups
  have hs0 : 0 ≤ s.n := by have := h.s0; omega
  have ha := okBag_asc h.bag
  rw [hg.groups ha.1 h.pos]
  have hperm := hg.perm
  have hok : ∀ g ∈ gs, ∀ x ∈ g, okR x.1 = true := fun g hgg x hx => ha.1.ok x (hg.mem hgg hx)
  have hgo : ∀ g ∈ gs.map (aftB []), okBag g = true := fun g hgm => by
    obtain ⟨k, hk, rfl⟩ := List.mem_map.1 hgm
    exact grp_ok hg h.bag hk
  have hask : ∀ g ∈ gs.map (aftB []), askE s width g = 0 := fun g hgm => by
    obtain ⟨k, hk, rfl⟩ := List.mem_map.1 hgm
    exact h.sub ho (grp_ok hg h.bag hk) fun x hx => grp_mem hg h.its0 hk hx
  have hsum : ∀ r, sumG (gs.map (aftB [])).flatten r = look b r := fun r => by rw [sumG_flat_aft hok, sumG_perm hperm, sumG_asc ha.1]
  have hmemb : ∀ x ∈ (gs.map (aftB [])).flatten, x ∈ b := fun x hx => by
    obtain ⟨g, hgm, hx⟩ := List.mem_flatten.1 hx
    obtain ⟨k, hk, rfl⟩ := List.mem_map.1 hgm
    exact grp_mem hg h.its0 hk hx
  have htk : ∀ (l : List Bg) (k : Nat), l.take k ++ l.drop k = l := fun l k => List.take_append_drop k l
  -- tops
  have htop : ∀ g ∈ gs.map (aftB []), okBag (topB s g) = true := fun g hgm => (ask_ok (hask g hgm)).top_ok
  have htle : ∀ g ∈ gs.map (aftB []), ∀ x ∈ topB s g, ∃ y ∈ g, y.1 = x.1 := fun g hgm x hx => by
    obtain ⟨y, hy, e⟩ := (ask_ok (hask g hgm)).top_row hx
    exact ⟨y, hy, e.symm⟩
  have hts : ∀ r, sumG ((gs.map (aftB [])).map (topB s)).flatten r = sumG (gs.flatMap (capG s.n)) r := fun r => by
    have gen : ∀ l : List Bg, (∀ g ∈ l, g ∈ gs) → sumG ((l.map (aftB [])).map (topB s)).flatten r = sumG (l.flatMap (capG s.n)) r := by
      intro l
      induction l with
      | nil => intro _; rfl
      | cons g l ih =>
        intro hm
        rw [List.map_cons, List.map_cons, List.flatten_cons, List.flatMap_cons, sumG_app, sumG_app, ih fun k hk => hm k (List.mem_cons_of_mem _ hk), tops_sum hg h.bag h.pos hs0 r (hm g List.mem_cons_self)]
    exact gen gs fun _ hk => hk
  obtain ⟨t1, t2⟩ := top_ok hg h.bag h.pos hs0
  have htl : ∀ r, sumG (gs.flatMap (capG s.n)) r = look (topB s b) r := fun r => by rw [← sumG_perm t2, sumG_asc (okBag_asc t1).1]
  have htpos : ∀ x ∈ ((gs.map (aftB [])).map (topB s)).flatten, 0 < x.2 := fun x hx => by
    obtain ⟨t, ht, hx⟩ := List.mem_flatten.1 hx
    obtain ⟨g, hgm, rfl⟩ := List.mem_map.1 ht
    have a := ask_ok (hask g hgm)
    obtain ⟨gs2, hg2⟩ := a.groups
    obtain ⟨_, u2⟩ := top_ok hg2 a.bag a.pos hs0
    obtain ⟨k, _, hk⟩ := List.mem_flatMap.1 (u2.mem_iff.1 hx)
    obtain ⟨_, _, _, e, _⟩ := cap_mem hk
    exact e
  refine ⟨?_, hgo, hask, fun k => ?_, ?_, fun k => ?_, ?_⟩
  · rw [List.length_map]
    have := hg.count
    have := ha.2.2
    omega
  · have e := htk (gs.map (aftB [])) k
    refine part_big (rest := (gs.map (aftB [])).drop k) h.bag ?_ (fun g hgm => (okBag_asc (hgo g (List.mem_of_mem_take hgm))).1) ?_ ?_
    · rw [e]; exact fun x hx => h.pos x (hmemb x hx)
    · rw [e]; exact fun r => by rw [hsum]; exact Int.le_refl _
    · rw [e]; exact fun x hx => ⟨x, hmemb x hx, rfl⟩
  · obtain ⟨h1, h2, h3⟩ := sumB_ok (l := gs.map (aftB [])) fun g hgm => (okBag_asc (hgo g hgm)).1
    exact Asc.ext h1 ha.1 h2 (fun x hx => (numB_ne (ha.2.1 x hx)).1) fun r => by rw [h3, hsum]
  · have e : ((gs.map (aftB [])).take k).map (topB s) ++ ((gs.map (aftB [])).drop k).map (topB s) = (gs.map (aftB [])).map (topB s) := by rw [← List.map_append, htk]
    refine part_big (rest := ((gs.map (aftB [])).drop k).map (topB s)) t1 ?_ (fun t ht => ?_) ?_ ?_
    · rw [e]; exact htpos
    · obtain ⟨g, hgm, rfl⟩ := List.mem_map.1 ht
      exact (okBag_asc (htop g (List.mem_of_mem_take hgm))).1
    · rw [e]; exact fun r => by rw [hts, htl]; exact Int.le_refl _
    · rw [e]
      intro x hx
      have h5 := htpos x hx
      have h6 : sumG ((gs.map (aftB [])).map (topB s)).flatten x.1 ≠ 0 := by
        obtain ⟨a1, a2, hx2⟩ : ∃ a1 a2, ((gs.map (aftB [])).map (topB s)).flatten = a1 ++ x :: a2 := by
          obtain ⟨a1, a2, e⟩ := List.append_of_mem hx
          exact ⟨a1, a2, e⟩
        rw [hx2] at htpos ⊢
        have p1 := (sumG_pos (l := a1) (fun z hz => htpos z (List.mem_append.2 (.inl hz))) x.1).1
        have p2 := (sumG_pos (l := a2) (fun z hz => htpos z (List.mem_append.2 (.inr (List.mem_cons_of_mem _ hz)))) x.1).1
        rw [sumG_app, show x :: a2 = [x] ++ a2 from rfl, sumG_app, sumG_one, if_pos rfl]
        omega
      rw [hts, htl] at h6
      by_cases hc : ∃ y ∈ topB s b, y.1 = x.1
      · exact hc
      · exact absurd (look_far fun y hy e => hc ⟨y, hy, e⟩) h6
  · obtain ⟨h1, h2, h3⟩ := sumB_ok (l := (gs.map (aftB [])).map (topB s)) fun t ht => by
      obtain ⟨g, hgm, rfl⟩ := List.mem_map.1 ht
      exact (okBag_asc (htop g hgm)).1
    exact Asc.ext h1 (okBag_asc t1).1 h2 (fun x hx => (numB_ne ((okBag_asc t1).2.1 x hx)).1) fun r => by rw [h3, hts, htl]
end Go.Proofs.YtljglceaibgknaaGreatDoor
