/-
  Plain laws of Distinct, Meet, Join and Within.
-/
import Derived.Test.YtoapjidpfghnlaaGreatDoorNetM
import Derived.Test.YtoapjidpfghnlaaGreatDoorMdI
namespace Go.Proofs.YtoapjidpfghnlaaGreatDoor
open Go.RowKit
set_option linter.unusedVariables false

/-- All different rows of two bags. -/
def rws (a b : Bg) : List Rw := a.map (·.1) ++ (b.filter fun y => decide (look a y.1 = 0)).map (·.1)
theorem rws_ok {a b : Bg} (ha : okBag a = true) (hb : okBag b = true) : ∀ r ∈ rws a b, okR r = true := by
  intro r hr
  rcases List.mem_append.1 hr with h | h
  · obtain ⟨x, hx, rfl⟩ := List.mem_map.1 h
    exact (okBag_asc ha).1.ok x hx
  · obtain ⟨x, hx, rfl⟩ := List.mem_map.1 h
    exact (okBag_asc hb).1.ok x (List.mem_filter.1 hx).1
theorem rws_apart {a b : Bg} (ha : okBag a = true) (hb : okBag b = true) : (rws a b).Pairwise (· ≠ ·) := by
  unfold rws
  rw [List.pairwise_append]
  refine ⟨List.pairwise_map.2 (asc_apart (okBag_asc ha).1), List.pairwise_map.2 ((asc_apart (okBag_asc hb).1).sublist List.filter_sublist), fun r hr s hs e => ?_⟩
  obtain ⟨x, hx, rfl⟩ := List.mem_map.1 hr
  obtain ⟨y, hy, rfl⟩ := List.mem_map.1 hs
  have h1 := (List.mem_filter.1 hy).2
  rw [← e, look_mem (okBag_asc ha).1 hx] at h1
  exact (numB_ne ((okBag_asc ha).2.1 x hx)).1 (by simpa using h1)
theorem rws_far {a b : Bg} (ha : okBag a = true) {r : Rw} (h : r ∉ rws a b) : look a r = 0 ∧ look b r = 0 := by
  unfold rws at h
  rw [List.mem_append, not_or] at h
  have h1 : look a r = 0 := look_far fun x hx e => h.1 (List.mem_map.2 ⟨x, hx, e⟩)
  refine ⟨h1, look_far fun y hy e => h.2 (List.mem_map.2 ⟨y, List.mem_filter.2 ⟨hy, ?_⟩, e⟩)⟩
  rw [e, h1]
  rfl
theorem rws_len {a b : Bg} (ha : okBag a = true) (hb : okBag b = true) : (rws a b).length ≤ 800 := by
  unfold rws
  rw [List.length_append, List.length_map, List.length_map]
  have h1 := (okBag_asc ha).2.2
  have h2 := (okBag_asc hb).2.2
  have h3 := List.length_filter_le (fun y : Rw × Int => decide (look a y.1 = 0)) b
  omega
/-- What the reference puts together. -/
def eithX (f : Int → Int → Int) (a b : Bg) : Bg := (rws a b).map fun r => (r, f (look a r) (look b r))
theorem eithX_ok {f : Int → Int → Int} {a b : Bg} (ha : okBag a = true) (hb : okBag b = true) : ∀ x ∈ eithX f a b, okR x.1 = true := by
  intro x hx
  obtain ⟨r, hr, rfl⟩ := List.mem_map.1 hx
  exact rws_ok ha hb r hr
theorem eith_net {f : Int → Int → Int} {a b : Bg} (ha : okBag a = true) (hb : okBag b = true) (k : Nat) : Net ((eithX f a b).take k) (aftB [] ((eithX f a b).take k)) := by
  have := aft_ok (b := []) (l := (eithX f a b).take k) (fun x hx => eithX_ok ha hb x (List.mem_of_mem_take hx)) ⟨nofun, List.Pairwise.nil⟩ nofun
  simpa using this
theorem eith_eq {f : Int → Int → Int} (hf : f 0 0 = 0) {a b : Bg} (ha : okBag a = true) (hb : okBag b = true) : aftB [] (eithX f a b) = both f (prs a b) := by
  have hn := eith_net (f := f) ha hb (eithX f a b).length
  rw [List.take_length] at hn
  obtain ⟨i1, i2, i3⟩ := both_prs (f := f) hf (okBag_asc ha).1 (okBag_asc hb).1
  refine Asc.ext hn.asc i1 hn.ne i2 fun r => ?_
  have hap : (eithX f a b).Pairwise fun x y => x.1 ≠ y.1 := by unfold eithX; exact List.pairwise_map.2 (rws_apart ha hb)
  rw [hn.sum, sumG_look hap, i3]
  by_cases h : r ∈ rws a b
  · exact look_in hap (x := (r, f (look a r) (look b r))) (List.mem_map.2 ⟨r, h, rfl⟩)
  · obtain ⟨h1, h2⟩ := rws_far ha h
    rw [h1, h2, hf]
    refine look_far fun x hx e => ?_
    obtain ⟨s, hs, rfl⟩ := List.mem_map.1 hx
    exact h (by rw [← e]; exact hs)
/-- What Within tells. -/
def leB (a b : Bg) : Bool := okBag a && okBag b && (rws a b).all fun r => decide (look a r ≤ look b r)
theorem le_all {a b : Bg} (ha : okBag a = true) : ((rws a b).all fun r => decide (look a r ≤ look b r)) = true ↔ ∀ r, look a r ≤ look b r := by
  rw [List.all_eq_true]
  constructor
  · intro h r
    by_cases hr : r ∈ rws a b
    · simpa using h r hr
    · obtain ⟨h1, h2⟩ := rws_far ha hr
      omega
  · intro h r _
    simpa using h r
theorem le_prs {a b : Bg} (ha : okBag a = true) (hb : okBag b = true) : ((prs a b).all fun t => decide (t.2.1 ≤ t.2.2)) = (rws a b).all fun r => decide (look a r ≤ look b r) := by
  have hp := prs_ok a b (okBag_asc ha).1 (okBag_asc hb).1
  rw [Bool.eq_iff_iff, le_all ha, List.all_eq_true]
  constructor
  · intro h r
    by_cases hr : (∃ x ∈ a, x.1 = r) ∨ ∃ y ∈ b, y.1 = r
    · obtain ⟨t, ht, rfl⟩ := hp.all r hr
      have h1 := h t ht
      have h2 := hp.val t ht
      rw [decide_eq_true_eq, h2.1, h2.2] at h1
      exact h1
    · rw [not_or] at hr
      rw [look_far fun x hx e => hr.1 ⟨x, hx, e⟩, look_far fun x hx e => hr.2 ⟨x, hx, e⟩]
      exact Int.le_refl _
  · intro h t ht
    have h2 := hp.val t ht
    rw [decide_eq_true_eq, h2.1, h2.2]
    exact h _
theorem le_of {a b : Bg} (ha : okBag a = true) (hb : okBag b = true) (h : ∀ r, look a r ≤ look b r) : leB a b = true := by
  unfold leB
  rw [ha, hb, (le_all ha).2 h]
  rfl
theorem comb_zero {f : Int → Int → Int} (hf : f 0 0 = 0) {a b d : Bg} (h : comb f a b = (d, 0)) : okBag a = true ∧ okBag b = true ∧ okBag d = true ∧ ∀ r, look d r = f (look a r) (look b r) := by
  unfold comb at h
  cases ha : okBag a
  · rw [ha] at h; cases h
  cases hb : okBag b
  · rw [ha, hb] at h; cases h
  rw [ha, hb] at h
  simp only [Bool.and_self, if_true] at h
  cases hd : okBag (both f (prs a b))
  · rw [hd] at h; cases h
  rw [hd] at h
  simp only [if_true] at h
  injection h with h
  subst h
  exact ⟨rfl, rfl, hd, (both_prs hf (okBag_asc ha).1 (okBag_asc hb).1).2.2⟩
theorem meet_le {a b d : Bg} (h : comb (fun m k => min m k) a b = (d, 0)) : leB d a = true ∧ leB d b = true := by
  obtain ⟨h1, h2, h3, h4⟩ := comb_zero (by simp) h
  exact ⟨le_of h3 h1 fun r => by rw [h4]; exact Int.min_le_left _ _, le_of h3 h2 fun r => by rw [h4]; exact Int.min_le_right _ _⟩
theorem join_ge {a b d : Bg} (h : comb (fun m k => max m k) a b = (d, 0)) : leB a d = true ∧ leB b d = true := by
  obtain ⟨h1, h2, h3, h4⟩ := comb_zero (by simp) h
  exact ⟨le_of h1 h3 fun r => by rw [h4]; exact Int.le_max_left _ _, le_of h2 h3 fun r => by rw [h4]; exact Int.le_max_right _ _⟩
theorem comb_self {f : Int → Int → Int} (hf : ∀ m, f m m = m) {a : Bg} : comb f a a = if okBag a then (a, 0) else ([], 1) := by
  unfold comb
  cases ha : okBag a
  · rfl
  obtain ⟨i1, i2, i3⟩ := both_prs (f := f) (hf 0) (okBag_asc ha).1 (okBag_asc ha).1
  have he : both f (prs a a) = a := Asc.ext i1 (okBag_asc ha).1 i2 (fun x hx => (numB_ne ((okBag_asc ha).2.1 x hx)).1) fun r => by rw [i3, hf]
  rw [he, ha]
  rfl
/-- What Distinct tells. -/
def distB (d : Bg) : Bg := (d.filter fun x => decide (0 < x.2)).map fun x => (x.1, 1)
def distG (x : Rw × Int) : Rw × Int := if 0 < x.2 then (x.1, 1) else ([], 0)
theorem dist_mk (d : Bg) : mk distG d = distB d := by
  unfold mk distB
  induction d with
  | nil => rfl
  | cons x d ih =>
    rw [List.map_cons, List.filter_cons, List.filter_cons]
    by_cases h : 0 < x.2
    · have e : distG x = (x.1, 1) := if_pos h
      rw [e]
      simp only [h, decide_true, if_true, List.map_cons]
      rw [if_pos (by simp), ih]
    · have e : distG x = ([], 0) := if_neg h
      rw [e, ih]
      simp [h]
theorem dist_mem {d : Bg} {x : Rw × Int} (h : x ∈ distB d) : x.2 = 1 ∧ ∃ y ∈ d, y.1 = x.1 := by
  obtain ⟨y, hy, rfl⟩ := List.mem_map.1 h
  exact ⟨rfl, y, (List.mem_filter.1 hy).1, rfl⟩
theorem dist_ok {d : Bg} (h : okBag d = true) : okBag (distB d) = true := by
  refine okBag_of ⟨fun x hx => ?_, ?_⟩ (fun x hx => ?_) ?_
  · obtain ⟨_, y, hy, e⟩ := dist_mem hx
    rw [← e]; exact (okBag_asc h).1.ok y hy
  · unfold distB
    exact List.pairwise_map.2 ((okBag_asc h).1.up.sublist List.filter_sublist)
  · rw [(dist_mem hx).1]; rfl
  · unfold distB
    rw [List.length_map]
    exact Nat.le_trans (List.length_filter_le _ _) (okBag_asc h).2.2
theorem dist_dist (d : Bg) : distB (distB d) = distB d := by
  have key : ∀ e : Bg, (∀ x ∈ e, x.2 = 1) → distB e = e := by
    intro e he
    unfold distB
    rw [List.filter_eq_self.2 fun x hx => by rw [he x hx]; rfl]
    refine (List.map_congr_left fun x hx => ?_).trans (List.map_id _)
    have := he x hx
    rcases x with ⟨a, b⟩
    simp only at this
    rw [this]
    rfl
  exact key _ fun x hx => (dist_mem hx).1
theorem dist_snoc (d : Bg) (x : Rw × Int) : distB (d ++ [x]) = distB d ++ if 0 < x.2 then [(x.1, 1)] else [] := by
  unfold distB
  rw [List.filter_append, List.map_append]
  congr 1
  by_cases h : 0 < x.2 <;> simp [h]
end Go.Proofs.YtoapjidpfghnlaaGreatDoor
