/-
  What the statements about Top ask, in plain Lean. No program in sight; no condition.
-/
import Derived.Test.YtljglceaibgknaaGreatDoorRkL
import Derived.Test.YtljglceaibgknaaGreatDoorLatM
import Derived.Test.YtljglceaibgknaaGreatDoorRkP
namespace Go.Proofs.YtljglceaibgknaaGreatDoor
open Go.RowKit
set_option linter.unusedVariables false

/-- There are groups. -/
theorem grs_there {s : Stp} {b : Bg} (hk : ∀ y ∈ b, okR (gk s y.1) = true) : ∃ gs, Grs s b gs := by
  have h := gsB_ok hk b.length
  rw [List.take_of_length_le (Nat.le_refl _)] at h
  let le : Bg → Bg → Bool := fun g k => decide (cmpR (hkr s g) (hkr s k) ≤ 0)
  have hp := List.mergeSort_perm (gsB s b) le
  have hs := List.pairwise_mergeSort (le := le) (fun a b c h1 h2 => by
    simp only [le, decide_eq_true_eq] at h1 h2 ⊢
    exact Tot.row.le _ _ _ h1 h2) (fun a b => by
    simp only [le, Bool.or_eq_true, decide_eq_true_eq]
    have := Tot.row.anti (hkr s a) (hkr s b)
    omega) (gsB s b)
  obtain ⟨g1, hg1⟩ : ∃ g1, (gsB s b).mergeSort le = g1 := ⟨_, rfl⟩
  rw [hg1] at hp hs
  refine ⟨g1.map (lnsB { s with per := [] }), h.grs hk hp (hs.imp fun {g k} hgk => ?_) (by rw [List.length_map]) fun i g k h1 h2 => ?_⟩
  · simp only [le, decide_eq_true_eq] at hgk
    have := Tot.row.anti (hkr s g) (hkr s k)
    omega
  · rw [List.getElem?_map, h1] at h2
    injection h2 with h2
    subst h2
    obtain ⟨a1, a2⟩ := lns_all { s with per := [] } g
    exact ⟨a1, a2⟩
theorem Askd.groups {s : Stp} {width : Int} {b : Bg} (h : Askd s width b) : ∃ gs, Grs s b gs := grs_there fun y hy => pick_ok ((okBag_asc h.bag).1.ok y hy) h.n8
theorem Askd.its0 {s : Stp} {width : Int} {b : Bg} (h : Askd s width b) : Its b := Its.of_asc (okBag_asc h.bag).1 fun x hx => (numB_ne ((okBag_asc h.bag).2.1 x hx)).1
theorem Askd.top_ok {s : Stp} {width : Int} {b : Bg} (h : Askd s width b) : okBag (topB s b) = true := by
  obtain ⟨gs, hg⟩ := h.groups
  exact (Go.Proofs.YtljglceaibgknaaGreatDoor.top_ok hg h.bag h.pos (by have := h.s0; omega)).1
theorem look_its {l : Bg} (h : Its l) {x : Rw × Int} (hx : x ∈ l) : look l x.1 = x.2 := look_in h.apart hx
/-- Top lies within the bag. -/
theorem Askd.top_le {s : Stp} {width : Int} {b : Bg} (h : Askd s width b) : leB (topB s b) b = true := by
  obtain ⟨gs, hg⟩ := h.groups
  have hs0 : 0 ≤ s.n := by have := h.s0; omega
  obtain ⟨h1, hp⟩ := Go.Proofs.YtljglceaibgknaaGreatDoor.top_ok hg h.bag h.pos hs0
  refine le_of h1 h.bag fun r => ?_
  by_cases hr : ∃ y ∈ topB s b, y.1 = r
  · obtain ⟨y, hy, rfl⟩ := hr
    rw [look_in (asc_apart (okBag_asc h1).1) hy]
    obtain ⟨g, hgg, hyg⟩ := List.mem_flatMap.1 (hp.mem_iff.1 hy)
    obtain ⟨x, hx, e1, e2, e3, e4⟩ := cap_mem hyg
    rw [e1, look_its h.its0 (hg.mem hgg hx)]
    exact e3
  · rw [look_far fun y hy e => hr ⟨y, hy, e⟩]
    by_cases hb : ∃ x ∈ b, x.1 = r
    · obtain ⟨x, hx, rfl⟩ := hb
      rw [look_its h.its0 hx]
      have := h.pos x hx
      omega
    · rw [look_far fun x hx e => hb ⟨x, hx, e⟩]
      exact Int.le_refl 0
/-- How many rows of a group are there. -/
def gtot (s : Stp) (key : Rw) (l : Bg) : Int := tot (l.filter fun y => decide (cmpR (gk s y.1) key = 0))
theorem tot_app (a b : Bg) : tot (a ++ b) = tot a + tot b := by
  induction a with
  | nil => show tot b = 0 + tot b; omega
  | cons x a ih => show x.2 + tot (a ++ b) = x.2 + tot a + tot b; omega
theorem gtot_snoc (s : Stp) (key : Rw) (l : Bg) (y : Rw × Int) : gtot s key (l ++ [y]) = gtot s key l + if cmpR (gk s y.1) key = 0 then y.2 else 0 := by
  unfold gtot
  rw [List.filter_append, tot_app]
  congr 1
  rw [List.filter_cons]
  by_cases h : cmpR (gk s y.1) key = 0
  · rw [if_pos (by simpa using h), if_pos h]
    show y.2 + 0 = y.2
    omega
  · rw [if_neg (by simpa using h), if_neg h]
    rfl
/-- P10.2. -/
theorem Askd.top_left {s : Stp} {width : Int} {b : Bg} (h : Askd s width b) {x : Rw × Int} (hx : x ∈ b) (hl : look (topB s b) x.1 ≠ x.2) :
    gtot s (gk s x.1) (topB s b) = s.n ∧ ∀ y ∈ topB s b, cmpR (gk s y.1) (gk s x.1) = 0 → ¬ ordS s x.1 y.1 < 0 := by
  obtain ⟨gs, hg⟩ := h.groups
  have hs0 : 0 ≤ s.n := by have := h.s0; omega
  obtain ⟨h1, hp⟩ := Go.Proofs.YtljglceaibgknaaGreatDoor.top_ok hg h.bag h.pos hs0
  obtain ⟨g, hgg, hxg⟩ := List.mem_flatten.1 (hg.perm.mem_iff.2 hx)
  have hkey : ∀ y ∈ b, okR (gk s y.1) = true := fun y hy => pick_ok ((okBag_asc h.bag).1.ok y hy) h.n8
  -- rows of one key are of one group
  have hone : ∀ g' ∈ gs, ∀ y ∈ g', (cmpR (gk s y.1) (gk s x.1) = 0 ↔ g' = g) := by
    intro g' hg' y hy
    constructor
    · intro h0
      obtain ⟨i, hi⟩ := List.getElem?_of_mem hg'
      obtain ⟨j, hj⟩ := List.getElem?_of_mem hgg
      obtain ⟨i1, i2⟩ := List.getElem?_eq_some_iff.1 hi
      obtain ⟨j1, j2⟩ := List.getElem?_eq_some_iff.1 hj
      have hup := List.pairwise_iff_getElem.1 hg.up
      rcases Nat.lt_trichotomy i j with e | e | e
      · have := hup i j i1 j1 e y (by rw [i2]; exact hy) x (by rw [j2]; exact hxg)
        omega
      · subst e
        rw [hi] at hj
        injection hj
      · have := hup j i j1 i1 e x (by rw [j2]; exact hxg) y (by rw [i2]; exact hy)
        have h3 := Tot.row.anti (gk s x.1) (gk s y.1)
        omega
    · rintro rfl
      rw [hg.one g' hg' y hy x hxg]
      exact Tot.row.self _
  have hf : (topB s b).filter (fun y => decide (cmpR (gk s y.1) (gk s x.1) = 0)) |>.Perm (capG s.n g) := by
    refine (hp.filter _).trans ?_
    have hnd : gs.Pairwise fun g k => g ≠ k := List.Pairwise.imp_of_mem (fun {g1 g2} m1 m2 h12 e => by
      subst e
      obtain ⟨z, hz⟩ := List.exists_mem_of_ne_nil _ (hg.ne g1 m1)
      have := h12 z hz z hz
      have := Tot.row.self (gk s z.1)
      omega) hg.up
    have gen : ∀ (l : List Bg), (∀ k ∈ l, k ∈ gs) → (l.Pairwise fun g k => g ≠ k) → ((l.flatMap (capG s.n)).filter fun y => decide (cmpR (gk s y.1) (gk s x.1) = 0)) = if g ∈ l then capG s.n g else [] := by
      intro l
      induction l with
      | nil => intro _ _; simp
      | cons k l ih =>
        intro hm hn
        obtain ⟨n1, n2⟩ := List.pairwise_cons.1 hn
        rw [List.flatMap_cons, List.filter_append, ih (fun k hk => hm k (List.mem_cons_of_mem _ hk)) n2]
        have hkm := hm k List.mem_cons_self
        by_cases e : k = g
        · subst e
          have : k ∉ l := fun hkl => n1 k hkl rfl
          rw [if_neg this, if_pos List.mem_cons_self, List.append_nil, List.filter_eq_self]
          intro y hy
          obtain ⟨z, hz, e1, _⟩ := cap_mem hy
          rw [e1]
          simpa using (hone k hkm z hz).2 rfl
        · have h0 : (capG s.n k).filter (fun y => decide (cmpR (gk s y.1) (gk s x.1) = 0)) = [] := by
            rw [List.filter_eq_nil_iff]
            intro y hy
            obtain ⟨z, hz, e1, _⟩ := cap_mem hy
            rw [e1]
            intro hc
            exact e ((hone k hkm z hz).1 (by simpa using hc))
          rw [h0, List.nil_append]
          by_cases hgl : g ∈ l
          · rw [if_pos hgl, if_pos (List.mem_cons_of_mem _ hgl)]
          · rw [if_neg hgl, if_neg]
            intro hc
            rcases List.mem_cons.1 hc with hc | hc
            · exact e hc.symm
            · exact hgl hc
    rw [gen gs (fun _ h => h) hnd, if_pos hgg]
  have hlk : look (topB s b) x.1 = look (capG s.n g) x.1 := by
    have hca : (capG s.n g).Pairwise fun x y => x.1 ≠ y.1 := cap_apart (hg.its h.its0 hgg).apart
    by_cases hr : ∃ y ∈ topB s b, y.1 = x.1
    · obtain ⟨y, hy, e⟩ := hr
      have hyc : y ∈ capG s.n g := hf.mem_iff.1 (List.mem_filter.2 ⟨hy, by rw [e]; simpa using Tot.row.self _⟩)
      rw [← e, look_in (asc_apart (okBag_asc h1).1) hy, look_in hca hyc]
    · rw [look_far fun y hy e => hr ⟨y, hy, e⟩, look_far fun y hy e => hr ⟨y, (List.mem_filter.1 (hf.mem_iff.2 hy)).1, e⟩]
  rw [hlk] at hl
  obtain ⟨c1, c2⟩ := cap_left hs0 (fun y hy => h.pos y (hg.mem hgg hy)) (hg.its h.its0 hgg).apart (hg.srt g hgg) hxg hl
  refine ⟨?_, fun y hy h0 => c2 y (hf.mem_iff.1 (List.mem_filter.2 ⟨hy, by simpa using h0⟩))⟩
  unfold gtot
  rw [tot_perm hf]
  exact c1
theorem Askd.top_row {s : Stp} {width : Int} {b : Bg} (h : Askd s width b) {y : Rw × Int} (hy : y ∈ topB s b) : ∃ x ∈ b, y.1 = x.1 := by
  obtain ⟨gs, hg⟩ := h.groups
  obtain ⟨h1, hp⟩ := Go.Proofs.YtljglceaibgknaaGreatDoor.top_ok hg h.bag h.pos (by have := h.s0; omega)
  obtain ⟨g, hgg, hyg⟩ := List.mem_flatMap.1 (hp.mem_iff.1 hy)
  obtain ⟨x, hx, e1, _⟩ := cap_mem hyg
  exact ⟨x, hg.mem hgg hx, e1⟩
theorem gtot_bound (s : Stp) (key : Rw) {l : Bg} (h : ∀ y ∈ l, -1000000 ≤ y.2 ∧ y.2 ≤ 1000000) : -1000000 * (l.length : Int) ≤ gtot s key l ∧ gtot s key l ≤ 1000000 * (l.length : Int) := by
  induction l with
  | nil => exact ⟨Int.le_refl 0, Int.le_refl 0⟩
  | cons y l ih =>
    have h1 := ih fun z hz => h z (List.mem_cons_of_mem _ hz)
    have h2 := h y List.mem_cons_self
    have e : gtot s key (y :: l) = (if cmpR (gk s y.1) key = 0 then y.2 else 0) + gtot s key l := by
      unfold gtot
      rw [List.filter_cons]
      by_cases hc : cmpR (gk s y.1) key = 0
      · rw [if_pos (by simpa using hc), if_pos hc]; rfl
      · rw [if_neg (by simpa using hc), if_neg hc]; omega
    rw [e, List.length_cons]
    split <;> omega
end Go.Proofs.YtljglceaibgknaaGreatDoor
