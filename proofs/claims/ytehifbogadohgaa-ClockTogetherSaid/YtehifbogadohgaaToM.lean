/-
  Plain law of ClockTogether: two times are in one session exactly if steps below the gap lead from the lesser one to the greater one.
-/
import Derived.Test.YtehifbogadohgaaSeT
namespace Go.Proofs.Ytehifbogadohgaa
set_option linter.unusedVariables false

theorem cont_iff {w : Wd} {t : Int} (h : cont w.1 w.2 t = true) : w.1 ≤ t ∧ t < w.2 := by
  unfold cont inB at h
  simp at h
  omega
theorem cont_of {w : Wd} {t : Int} (hv : vwin w.1 w.2 = true) (ht : vtime t = true) (h1 : w.1 ≤ t) (h2 : t < w.2) : cont w.1 w.2 t = true := by
  unfold cont inB
  rw [hv, ht]
  simp
  omega
theorem found_in {t : Int} : ∀ {l : List Wd}, (∃ o ∈ l, cont o.1 o.2 t = true) → ∃ w ∈ l, found t l = (w, 0) ∧ cont w.1 w.2 t = true
  | [], h => by obtain ⟨o, ho, _⟩ := h; cases ho
  | x :: l, h => by
    by_cases hx : cont x.1 x.2 t = true
    · exact ⟨x, List.mem_cons_self, by rw [found, if_pos hx], hx⟩
    · obtain ⟨o, ho, hc⟩ := h
      rcases List.mem_cons.1 ho with rfl | ho
      · exact absurd hc hx
      · obtain ⟨w, hw, h1, h2⟩ := found_in ⟨o, ho, hc⟩
        exact ⟨w, List.mem_cons_of_mem _ hw, by rw [found, if_neg hx]; exact h1, h2⟩
/-- The sessions of times. -/
structure Ses (g : Int) (ts : List Int) (out : List Wd) : Prop where
  mg : Mg (sesL g ts) out
  ok : okTs ts = true
  g1 : 1 ≤ g
  g2 : g ≤ 1000000000
theorem SeE.ses {g : Int} {ts : List Int} {out : List Wd} (h : SeE g ts out 0) : Ses g ts out := by
  unfold SeE at h
  split at h
  · omega
  · omega
  · rename_i h2
    rw [Bool.and_eq_true] at h2
    obtain ⟨h3, h4⟩ := (inB_iff _ _ _).1 h2.1
    exact ⟨h.2, h2.2, h3, h4⟩
theorem dis_same {out : List Wd} (h : Dis out) {a b : Wd} (ha : a ∈ out) (hb : b ∈ out) {t : Int} (h1 : a.1 ≤ t ∧ t < a.2) (h2 : b.1 ≤ t ∧ t < b.2) : a = b := by
  obtain ⟨i, hi⟩ := List.mem_iff_getElem?.1 ha
  obtain ⟨j, hj⟩ := List.mem_iff_getElem?.1 hb
  obtain ⟨hi', rfl⟩ := List.getElem?_eq_some_iff.1 hi
  obtain ⟨hj', rfl⟩ := List.getElem?_eq_some_iff.1 hj
  rcases Nat.lt_trichotomy i j with hij | hij | hij
  · have := List.pairwise_iff_getElem.1 h.2 i j hi' hj' hij; omega
  · subst hij; rfl
  · have := List.pairwise_iff_getElem.1 h.2 j i hj' hi' hij; omega
section
variable {g : Int} {ts : List Int} {out : List Wd}
theorem Ses.time (h : Ses g ts out) {t : Int} (ht : t ∈ ts) : vtime t = true := List.all_eq_true.1 h.ok t ht
theorem Ses.win (h : Ses g ts out) {t : Int} (ht : t ∈ ts) : ∃ o ∈ out, o.1 ≤ t ∧ t + g ≤ o.2 := by
  have hw : (t, t + g) ∈ sesL g ts := List.mem_map.2 ⟨t, ht, rfl⟩
  have hg := h.g1
  obtain ⟨o, ho, h1, h2⟩ := h.mg.within hw (by show t < t + g; omega)
  exact ⟨o, ho, h1, h2⟩
theorem Ses.sess (h : Ses g ts out) {t : Int} (ht : t ∈ ts) : ∃ w ∈ out, found t out = (w, 0) ∧ w.1 ≤ t ∧ t < w.2 := by
  obtain ⟨o, ho, h1, h2⟩ := h.win ht
  have hg := h.g1
  have hv := (h.mg.allV (sesL_allV h.ok h.g1 h.g2)) o ho
  obtain ⟨w, hw, h3, h4⟩ := found_in ⟨o, ho, cont_of hv (h.time ht) h1 (by omega)⟩
  exact ⟨w, hw, h3, cont_iff h4⟩
/-- A time to which steps lead from lo. -/
structure Rch (ts : List Int) (W : Wd) (lo t : Int) : Prop where
  mem : t ∈ ts
  le : lo ≤ t
  inw : W.1 ≤ t ∧ t < W.2
theorem Rch.step (h : Ses g ts out) {W : Wd} (hW : W ∈ out) {lo a t : Int} (r : Rch ts W lo a) (ht : t ∈ ts) (h1 : a < t) (h2 : t - a < g) : Rch ts W lo t := by
  obtain ⟨o, ho, k1, k2⟩ := h.win r.mem
  have hg := h.g1
  have e := dis_same h.mg.dis ho hW ⟨k1, by omega⟩ r.inw
  subst e
  have := r.le
  exact ⟨ht, by omega, by omega, by omega⟩
theorem together_plain (h : Ses g ts out) {ti tj a : Int} (hi : ti ∈ ts) (hj : tj ∈ ts) {wi wj W : Wd} (hwi : wi ∈ out) (hwj : wj ∈ out) (ci : wi.1 ≤ ti ∧ ti < wi.2) (cj : wj.1 ≤ tj ∧ tj < wj.2) (hW : W ∈ out)
    (cW : W.1 ≤ min ti tj ∧ min ti tj < W.2) (r : Rch ts W (min ti tj) a) (hcl : ∀ t ∈ ts, ¬ (a < t ∧ t - a < g)) : eqW wi.1 wi.2 wj.1 wj.2 = decide (max ti tj ≤ a) := by
  have hg := h.g1
  unfold eqW
  rw [decide_eq_decide]
  constructor
  · rintro ⟨e1, e2⟩
    have e : wi = wj := Prod.ext e1 e2
    subst e
    have eW : W = wi := by
      by_cases hm : ti ≤ tj
      · exact dis_same h.mg.dis hW hwi cW (by rw [Int.min_eq_left hm]; exact ci)
      · exact dis_same h.mg.dis hW hwi cW (by rw [Int.min_eq_right (by omega)]; exact cj)
    subst eW
    refine Int.not_lt.1 fun hlt => ?_
    have hmx : max ti tj ∈ ts := by
      by_cases hm : ti ≤ tj
      · rw [Int.max_eq_right hm]; exact hj
      · rw [Int.max_eq_left (by omega)]; exact hi
    have hfar : ¬ (max ti tj - a < g) := fun k => hcl _ hmx ⟨hlt, k⟩
    have hin : max ti tj < W.2 := by omega
    have hrw := r.inw
    obtain ⟨v, hv, k1, k2⟩ := (h.mg.cov (2 * (a + g))).1 ⟨W, hW, by unfold InW; omega⟩
    obtain ⟨t, ht, rfl⟩ := List.mem_map.1 hv
    simp only at k1 k2
    exact hcl t ht ⟨by omega, by omega⟩
  · intro hle
    have hrw := r.inw
    have ei : W = wi := dis_same h.mg.dis hW hwi (t := ti) (by omega) ci
    have ej : W = wj := dis_same h.mg.dis hW hwj (t := tj) (by omega) cj
    rw [← ei, ← ej]
    exact ⟨rfl, rfl⟩
end
end Go.Proofs.Ytehifbogadohgaa
