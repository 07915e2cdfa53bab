/-
  What all changes that a joiner gave come to: the pairs of both sides' events, in plain data. No program in sight; no condition.
-/
import Derived.Test.YtoapjidpfghnlaaGreatDoorJnA
import Derived.Test.YtoapjidpfghnlaaGreatDoorIns
namespace Go.Proofs.YtoapjidpfghnlaaGreatDoor
open Go.RowKit
set_option linter.unusedVariables false
set_option linter.unusedSimpArgs false

def wS (g : Th → Bool) : List Th → Int
  | [] => 0
  | h :: l => (if g h then h.m else 0) + wS g l
theorem wS_app (g : Th → Bool) (a b : List Th) : wS g (a ++ b) = wS g a + wS g b := by
  induction a with
  | nil => simp [wS]
  | cons x a ih => rw [List.cons_append, wS, wS, ih]; omega
theorem wS_filter {g p : Th → Bool} (h : ∀ x, g x = true → p x = true) (l : List Th) : wS g (l.filter p) = wS g l := by
  induction l with
  | nil => rfl
  | cons x l ih =>
    rw [List.filter_cons]
    split
    · rw [wS, wS, ih]
    · rename_i hp
      rw [wS, ih]
      have : g x = false := by
        cases e : g x
        · rfl
        · exact absurd (h x e) hp
      rw [this]
      simp
theorem wS_split {g : Th → Bool} (hg : ∀ x y, sameT x y = true → g x = g y) (c : Th) (l : List Th) : wS g l = wS g (l.filter fun h => !sameT h c) + if g c then smT c l else 0 := by
  induction l with
  | nil => simp [wS, smT]
  | cons x l ih =>
    rw [List.filter_cons, wS, smT, ih]
    cases e : sameT x c
    · simp only [Bool.not_false, if_true, wS]
      cases g c <;> simp <;> omega
    · rw [hg x c e]
      simp only [Bool.not_true, Bool.false_eq_true, if_false, if_true]
      cases g c <;> simp
      omega
theorem wS_kept {g : Th → Bool} (hg : ∀ x y, sameT x y = true → g x = g y) (c : Th) (l : List Th) : wS g (keptT l c) = wS g l + if g c then c.m else 0 := by
  unfold keptT
  rw [wS_app, wS_split hg c l]
  have e : g (c.of (c.m + smT c l)) = g c := hg _ _ (by rw [of_same, sameT_refl])
  by_cases h0 : c.m + smT c l = 0
  · rw [if_neg (by simp [h0])]
    cases g c <;> simp [wS]
    omega
  · rw [if_pos h0, wS, wS, e]
    cases g c <;> simp [Th.of]
    omega
/-- h meets c, and what they give is d. -/
def gJ (left : Bool) (own oth : List Int) (lo hi : Int) (c d h : Th) : Bool := (btw (dtT left c h) lo hi && eqJ left own oth c h) && sameT (jnT left c h) d
theorem gJ_congr {left : Bool} {own oth : List Int} {lo hi : Int} {c d : Th} (x y : Th) (h : sameT x y = true) : gJ left own oth lo hi c d x = gJ left own oth lo hi c d y := by
  obtain ⟨h1, h2⟩ := sameT_iff.1 h
  obtain ⟨t, m, r⟩ := x
  obtain ⟨t', m', r'⟩ := y
  simp only at h1 h2
  subst h1 h2
  rfl
theorem sm_jn (left : Bool) (own oth : List Int) (lo hi : Int) (c d : Th) (l : List Th) : smT d (jnL left own oth lo hi c l) = wS (gJ left own oth lo hi c d) l * c.m := by
  unfold jnL
  induction l with
  | nil => simp [smT, wS]
  | cons x l ih =>
    rw [List.filter_cons, wS, Int.add_mul, ← ih]
    unfold gJ
    cases e : (btw (dtT left c x) lo hi && eqJ left own oth c x)
    · simp
    · simp only [if_true, List.map_cons, smT, Bool.true_and]
      congr 1
      split
      · rfl
      · simp
/-- What is kept gives as much as all that came. -/
structure GvI (on others : List Int) (lo hi mk : Int) (L R La Ra : List Th) : Prop where
  l : ∀ c d : Th, mk ≤ c.t → wS (gJ false others on lo hi c d) L = wS (gJ false others on lo hi c d) La
  r : ∀ c d : Th, mk ≤ c.t → wS (gJ true on others lo hi c d) R = wS (gJ true on others lo hi c d) Ra
def prsJ (on others : List Int) (lo hi : Int) (La Ra : List Th) : List Th := La.flatMap fun a => jnL true on others lo hi a Ra
section
variable {on others : List Int} {lo hi mk : Int} {L R La Ra got raw : List Th}
theorem GvI.nil (on others : List Int) (lo hi mk : Int) : GvI on others lo hi mk [] [] [] [] := ⟨fun _ _ _ => rfl, fun _ _ _ => rfl⟩
theorem GvI.left (h : GvI on others lo hi mk L R La Ra) (c : Th) : GvI on others lo hi mk (keptT L c) R (La ++ [c]) Ra :=
  ⟨fun x d hx => by rw [wS_kept gJ_congr, h.l x d hx, wS_app, wS, wS]; omega, h.r⟩
theorem GvI.right (h : GvI on others lo hi mk L R La Ra) (c : Th) : GvI on others lo hi mk L (keptT R c) La (Ra ++ [c]) :=
  ⟨h.l, fun x d hx => by rw [wS_kept gJ_congr, h.r x d hx, wS_app, wS, wS]; omega⟩
theorem gJ_btw {left : Bool} {own oth : List Int} {c d x : Th} (h : gJ left own oth lo hi c d x = true) : lo ≤ dtT left c x ∧ dtT left c x ≤ hi := by
  unfold gJ at h
  rw [Bool.and_eq_true, Bool.and_eq_true] at h
  exact btw_iff.1 h.1.1
theorem GvI.mark (h : GvI on others lo hi mk L R La Ra) {m : Int} (hm : mk ≤ m) : GvI on others lo hi m (L.filter fun x => !decide (x.t + hi < m)) (R.filter fun x => !decide (x.t + -lo < m)) La Ra := by
  refine ⟨fun c d hc => ?_, fun c d hc => ?_⟩
  · rw [wS_filter (fun x hx => ?_), h.l c d (by omega)]
    have := gJ_btw hx
    unfold dtT at this
    simp only [Bool.false_eq_true, if_false] at this
    simp
    omega
  · rw [wS_filter (fun x hx => ?_), h.r c d (by omega)]
    have := gJ_btw hx
    unfold dtT at this
    simp only [if_true] at this
    simp
    omega
/-- What a change of the left side adds. -/
theorem gives_left (h : GvI on others lo hi mk L R La Ra) {c : Th} (hc : mk ≤ c.t) (hp : raw.Perm (jnL true on others lo hi c R)) (hg : ∀ d, smT d got = smT d (prsJ on others lo hi La Ra)) :
    ∀ d, smT d (got ++ raw) = smT d (prsJ on others lo hi (La ++ [c]) Ra) := fun d => by
  unfold prsJ at hg ⊢
  rw [smT_app, hg d, List.flatMap_append, smT_app, smT_perm d hp, sm_jn, h.r c d hc, ← sm_jn]
  simp
theorem gJ_turn (a c d : Th) : gJ true on others lo hi a d c = gJ false others on lo hi c d a := by
  unfold gJ dtT eqJ jnT
  simp only [if_true, Bool.false_eq_true, if_false]
  congr 1
  unfold sameT
  rw [Int.max_comm]
theorem gives_right (h : GvI on others lo hi mk L R La Ra) {c : Th} (hc : mk ≤ c.t) (h1 : c.m = 1) (hp : raw.Perm (jnL false others on lo hi c L)) (hg : ∀ d, smT d got = smT d (prsJ on others lo hi La Ra)) :
    ∀ d, smT d (got ++ raw) = smT d (prsJ on others lo hi La (Ra ++ [c])) := fun d => by
  rw [smT_app, hg d, smT_perm d hp, sm_jn, h.l c d hc, h1, Int.mul_one]
  unfold prsJ
  clear h hg
  induction La with
  | nil => simp [smT, wS]
  | cons a La ih =>
    rw [List.flatMap_cons, List.flatMap_cons, smT_app, smT_app, ← ih, wS, sm_jn, sm_jn, wS_app, wS, wS, gJ_turn, h1, Int.add_zero, Int.add_mul]
    cases gJ false others on lo hi c d a <;> simp <;> omega
end
def teT (x : Th) : Te := (x.t, x.r)
def ofTe (e : Te) : Th := ⟨e.1, 1, e.2⟩
theorem prs_te {on others : List Int} {lo hi : Int} {La Ra : List Th} (hl : ∀ x ∈ La, x.m = 1) (hr : ∀ x ∈ Ra, x.m = 1) : (pairsI on others lo hi (La.map teT) (Ra.map teT)).map ofTe = prsJ on others lo hi La Ra := by
  unfold pairsI prsJ
  induction La with
  | nil => rfl
  | cons a La ih =>
    rw [List.map_cons, List.flatMap_cons, List.flatMap_cons, List.map_append, ih fun x hx => hl x (List.mem_cons_of_mem _ hx)]
    congr 1
    unfold pairsOf jnL
    rw [List.filter_map, List.map_map, List.map_map]
    have e : ((fun y : Te => btw (y.1 - (teT a).1) lo hi && eqK on others (teT a).2 y.2) ∘ teT) = fun h => btw (dtT true a h) lo hi && eqJ true on others a h := rfl
    rw [e]
    refine List.map_congr_left fun x hx => ?_
    have h1 := hl a List.mem_cons_self
    have h2 := hr x (List.mem_filter.1 hx).1
    simp [ofTe, teT, jnT, h1, h2]
theorem gives_all {on others : List Int} {lo hi : Int} {La Ra got : List Th} {l : List Te} (hl : ∀ x ∈ La, x.m = 1) (hr : ∀ x ∈ Ra, x.m = 1) (hg : ∀ d, smT d got = smT d (prsJ on others lo hi La Ra)) (hk : ∀ x ∈ got, okR x.r = true)
    (hp : l.Perm (pairsI on others lo hi (La.map teT) (Ra.map teT))) (hk2 : ∀ e ∈ l, okR e.2 = true) : sumT got = sumT (l.map ofTe) := by
  obtain ⟨h1, h2⟩ := AscT.sum hk
  obtain ⟨h3, h4⟩ := AscT.sum (xs := l.map ofTe) fun x hx => by
    obtain ⟨e, he, rfl⟩ := List.mem_map.1 hx
    exact hk2 e he
  refine AscT.ext h1 h3 fun d => ?_
  rw [h2, h4, hg d, ← prs_te hl hr, smT_perm d (hp.map ofTe)]
end Go.Proofs.YtoapjidpfghnlaaGreatDoor
