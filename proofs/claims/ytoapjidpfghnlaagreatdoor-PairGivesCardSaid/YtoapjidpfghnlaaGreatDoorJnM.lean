/-
  Keys of rows as what a map is asked for. (Out of XOuE, so that a text can have them without the outer joins: the two are never imported together.) No condition.
  Joiners as plain data: what a side keeps, what a change gives, lists of changes summed up. No program in sight; no condition.
-/
import Derived.Test.YtoapjidpfghnlaaGreatDoorPrO
import Derived.Test.YtoapjidpfghnlaaGreatDoorRngH
import Derived.Test.YtoapjidpfghnlaaGreatDoorApl
namespace Go.Proofs.YtoapjidpfghnlaaGreatDoor

section
open Go.RowKit Go.Maps
set_option linter.unusedVariables false
set_option linter.unusedSimpArgs false

def kyF (others : List Int) (r : Rw) : Option (List UInt8) := if nonul (pick r others) then some (keyC (pick r others)) else none
theorem kyF_no {others : List Int} {r : Rw} (h : nonul (pick r others) = false) : kyF others r = none := by
  unfold kyF
  rw [h]
  rfl
/-- Two rows have one key exactly if they are found by it. -/
theorem eqK_ky {on others : List Int} {l r : Rw} (hn : on.length = others.length) (hl : l.all okV = true) (hr : r.all okV = true) (h2 : hasC r others = true) : eqK on others l r = decide (kyF others r = some (ofS on l).data.toList) := by
  cases h1 : nonul (pick l on)
  · rw [show eqK on others l r = false from by unfold eqK; rw [h1]; rfl]
    symm
    rw [decide_eq_false_iff_not]
    intro e
    unfold ofS kyF at e
    rw [h1] at e
    cases h3 : nonul (pick r others) with
    | false => rw [h3] at e; cases e
    | true =>
      rw [h3] at e
      simp only [if_true] at e
      injection e with e
      have e : keyC (pick r others) = [] := e
      cases others with
      | nil =>
        obtain rfl : on = [] := List.eq_nil_of_length_eq_zero (by simpa using hn)
        cases h1
      | cons c cs =>
        obtain ⟨v, hv⟩ := hasC_val h2 (k := 0) (x := c) rfl
        have : pick r (c :: cs) = v :: pick r cs := by unfold pick; rw [List.filterMap_cons, hv]
        rw [this] at e
        simp [keyC] at e
  · rw [← eqK_text hl hr, h1, Bool.true_and]
    cases h3 : nonul (pick r others)
    · rw [kyF_no h3]
      rfl
    · unfold ofS kyF
      rw [h1, h3, Bool.true_and, decide_eq_decide]
      simp only [if_true]
      constructor
      · intro e; rw [e]
      · intro e; injection e with e; exact e.symm
theorem own_blockU {w w' : World} {base : Nat} {e : TypeId} {size n : Nat} {v : Value} {xs : List Value} (h : w.ownsRow base e size v n xs) (hk : ∀ g, v.ownBlock = some g → w'.heap[g]? = w.heap[g]?) : w'.ownsRow base e size v n xs := by
  refine ⟨h.1, ?_⟩
  rcases h.2 with h1 | ⟨g, cap, cur, rfl, h2, h3, h4⟩
  · exact .inl h1
  · exact .inr ⟨g, cap, cur, rfl, h2, (hk g rfl).trans h3, h4⟩
theorem str_key {s : ByteArray} (hs : s.data.size ≤ maxLen) : keyOf Tryz.prog 9 (.string s) = some (.string s.data.toList) := Go.WideMaps.keyOf_string_mk Tryz.underlying9 hs
end

section
open Go.RowKit
set_option linter.unusedVariables false
set_option linter.unusedSimpArgs false

/-- A row at a time, so many times. -/
structure Th where
  t : Int
  m : Int
  r : Rw
def sameT (x y : Th) : Bool := decide (x.t = y.t) && decide (x.r = y.r)
theorem sameT_iff {x y : Th} : sameT x y = true ↔ x.t = y.t ∧ x.r = y.r := by unfold sameT; simp
theorem sameT_refl (x : Th) : sameT x x = true := sameT_iff.2 ⟨rfl, rfl⟩
theorem sameT_symm (x y : Th) : sameT x y = sameT y x := by
  unfold sameT
  rw [show decide (x.t = y.t) = decide (y.t = x.t) from decide_eq_decide.2 ⟨Eq.symm, Eq.symm⟩, show decide (x.r = y.r) = decide (y.r = x.r) from decide_eq_decide.2 ⟨Eq.symm, Eq.symm⟩]
theorem sameT_left {x y z : Th} (h : sameT x y = true) : sameT x z = sameT y z := by
  obtain ⟨h1, h2⟩ := sameT_iff.1 h
  unfold sameT
  rw [h1, h2]
theorem th_eq {x y : Th} (h : sameT x y = true) (hm : x.m = y.m) : x = y := by
  obtain ⟨h1, h2⟩ := sameT_iff.1 h
  cases x; cases y
  simp only at h1 h2 hm
  subst h1 h2 hm
  rfl
/-- How often something of the same row and time is told. -/
def smT (c : Th) : List Th → Int
  | [] => 0
  | h :: l => (if sameT h c then h.m else 0) + smT c l
theorem smT_app (c : Th) (a b : List Th) : smT c (a ++ b) = smT c a + smT c b := by
  induction a with
  | nil => simp [smT]
  | cons x a ih => rw [List.cons_append, smT, smT, ih]; omega
theorem smT_perm (c : Th) {a b : List Th} (h : a.Perm b) : smT c a = smT c b := by
  induction h with
  | nil => rfl
  | cons x _ ih => rw [smT, smT, ih]
  | swap x y l => rw [smT, smT, smT, smT]; omega
  | trans _ _ h1 h2 => exact h1.trans h2
theorem smT_none {c : Th} {l : List Th} (h : ∀ x ∈ l, sameT x c = false) : smT c l = 0 := by
  induction l with
  | nil => rfl
  | cons x l ih => rw [smT, h x (by simp), ih fun y hy => h y (List.mem_cons_of_mem _ hy)]; rfl
theorem smT_same {c d : Th} (h : sameT c d = true) (l : List Th) : smT c l = smT d l := by
  induction l with
  | nil => rfl
  | cons x l ih => rw [smT, smT, ih, sameT_symm x c, sameT_symm x d, sameT_left h]
theorem smT_filter {c : Th} {p : Th → Bool} (hp : ∀ h, sameT h c = true → p h = true) (l : List Th) : smT c (l.filter p) = smT c l := by
  induction l with
  | nil => rfl
  | cons x l ih =>
    rw [List.filter_cons]
    split
    · rw [smT, smT, ih]
    · rename_i h
      rw [smT, ih]
      have : sameT x c = false := by
        cases e : sameT x c
        · rfl
        · exact absurd (hp x e) h
      rw [this]
      simp
/-- With 'm' told. -/
def Th.of (c : Th) (m : Int) : Th := ⟨c.t, m, c.r⟩
theorem of_same (c : Th) (m : Int) (x : Th) : sameT (c.of m) x = sameT c x := rfl
theorem same_of (c : Th) (m : Int) (x : Th) : sameT x (c.of m) = sameT x c := rfl
/-- A side with one change more, as the reference keeps it. -/
def keptT (l : List Th) (c : Th) : List Th := (l.filter fun h => !sameT h c) ++ if c.m + smT c l ≠ 0 then [c.of (c.m + smT c l)] else []
/-- .. and as the program keeps it. -/
def putT : List Th → Th → List Th
  | [], c => [c]
  | h :: l, c => if sameT h c then (if h.m + c.m = 0 then l else h.of (h.m + c.m) :: l) else h :: putT l c
theorem putT_none {c : Th} : ∀ {l : List Th}, (∀ h ∈ l, sameT h c = false) → putT l c = l ++ [c]
  | [], _ => rfl
  | h :: l, hl => by
    rw [putT, hl h (by simp), if_neg (by decide), putT_none fun x hx => hl x (List.mem_cons_of_mem _ hx)]
    rfl
theorem putT_at {c h : Th} : ∀ {l : List Th} {i : Nat}, l[i]? = some h → sameT h c = true → (∀ j x, j < i → l[j]? = some x → sameT x c = false) →
    putT l c = l.take i ++ (if h.m + c.m = 0 then [] else [h.of (h.m + c.m)]) ++ l.drop (i + 1)
  | [], i, h1, _, _ => by cases h1
  | x :: l, 0, h1, h2, _ => by
    have e : x = h := by simpa using h1
    subst e
    rw [putT, h2, if_pos rfl]
    split <;> simp
  | x :: l, i + 1, h1, h2, h3 => by
    rw [putT, h3 0 x (by omega) rfl, if_neg (by decide), putT_at (by simpa using h1) h2 fun j y hj hy => h3 (j + 1) y (by omega) (by simpa using hy)]
    simp
/-- No row is twice at a time. -/
def Nd (l : List Th) : Prop := l.Pairwise fun x y => sameT x y = false
theorem Nd.perm {a b : List Th} (h : Nd a) (hp : a.Perm b) : Nd b := (hp.pairwise_iff fun {x y} h => by rw [sameT_symm]; exact h).1 h
theorem Nd.filter {l : List Th} (h : Nd l) (p : Th → Bool) : Nd (l.filter p) := List.Pairwise.filter p h
theorem Nd.kept {l : List Th} (h : Nd l) (c : Th) : Nd (keptT l c) := by
  unfold keptT
  refine List.pairwise_append.2 ⟨h.filter _, ?_, fun x hx y hy => ?_⟩
  · split
    · exact List.pairwise_singleton _ _
    · exact List.Pairwise.nil
  · obtain ⟨_, h2⟩ := List.mem_filter.1 hx
    split at hy
    · rw [List.mem_singleton.1 hy, same_of]
      simpa using h2
    · cases hy
theorem keptT_perm {a b : List Th} (h : a.Perm b) (c : Th) : (keptT a c).Perm (keptT b c) := by
  unfold keptT
  rw [smT_perm c h]
  exact (h.filter _).append_right _
theorem putT_kept {c : Th} (hc : c.m ≠ 0) : ∀ {l : List Th}, Nd l → (putT l c).Perm (keptT l c)
  | [], _ => by
    unfold keptT
    have e : c.of (c.m + 0) = c := by cases c; simp [Th.of]
    rw [show smT c [] = 0 from rfl, if_pos (by omega), e]
    exact .refl _
  | h :: l, hn => by
    obtain ⟨h1, h2⟩ := List.pairwise_cons.1 hn
    have ih := putT_kept hc h2
    rw [putT]
    unfold keptT at ih ⊢
    rw [List.filter_cons, smT]
    cases e : sameT h c
    · simp only [Bool.false_eq_true, if_false, Bool.not_false, if_true, Int.zero_add]
      exact ih.cons h
    · simp only [if_true, Bool.not_true, Bool.false_eq_true, if_false]
      have hf : ∀ x ∈ l, sameT x c = false := fun x hx => by
        have := h1 x hx
        rw [sameT_left e] at this
        rw [sameT_symm]; exact this
      rw [smT_none hf, List.filter_eq_self.2 fun x hx => by rw [hf x hx]; rfl, show c.m + (h.m + 0) = h.m + c.m by omega]
      by_cases hz : h.m + c.m = 0
      · rw [if_pos hz, if_neg (by omega), List.append_nil]
      · rw [if_neg hz, if_pos hz]
        have : h.of (h.m + c.m) = c.of (h.m + c.m) := th_eq (by rw [of_same, same_of]; exact e) rfl
        rw [this]
        exact (List.perm_append_comm (l₁ := [c.of (h.m + c.m)]))

/-! Keys. -/
def keyJ (cols : List Int) (r : Rw) : List UInt8 := (kyF cols r).getD [126]
theorem keyC_tilde (k : Rw) : keyC k ≠ [126] := by
  rcases List.eq_nil_or_concat k with rfl | ⟨k', v', rfl⟩
  · exact fun e => by cases e
  · intro e
    have e2 : keyC (k'.concat v') = (keyC k' ++ valT v') ++ [44] := by
      unfold keyC
      rw [List.concat_eq_append, List.flatMap_append]
      simp
    rw [e2] at e
    have h1 := congrArg List.getLast? e
    rw [List.getLast?_concat] at h1
    cases h1
theorem keyJ_iff {cols : List Int} {r : Rw} {k : Rw} : keyJ cols r = keyC k ↔ kyF cols r = some (keyC k) := by
  unfold keyJ
  cases h : kyF cols r with
  | none => simp only [Option.getD_none]; exact ⟨fun e => absurd e.symm (keyC_tilde k), nofun⟩
  | some x => simp
/-- What is kept on a side, by its keys. -/
def JOk (cols : List Int) (L : List Th) (f : List UInt8 → List Th) : Prop := Nd L ∧ ∀ q, (f q).Perm (L.filter fun h => decide (keyJ cols h.r = q))
theorem JOk.nil (cols : List Int) : JOk cols [] fun _ => [] := ⟨List.Pairwise.nil, fun _ => .refl _⟩
theorem JOk.nd {cols : List Int} {L : List Th} {f : List UInt8 → List Th} (h : JOk cols L f) (q : List UInt8) : Nd (f q) := (h.1.filter _).perm (h.2 q).symm
theorem JOk.put {cols : List Int} {L : List Th} {f : List UInt8 → List Th} (h : JOk cols L f) {c : Th} (hc : c.m ≠ 0) :
    JOk cols (keptT L c) fun q => if q = keyJ cols c.r then putT (f q) c else f q := by
  refine ⟨h.1.kept c, fun q => ?_⟩
  have hk : ∀ x, sameT x c = true → keyJ cols x.r = keyJ cols c.r := fun x hx => by rw [(sameT_iff.1 hx).2]
  show List.Perm (if q = keyJ cols c.r then putT (f q) c else f q) _
  by_cases e : q = keyJ cols c.r
  · rw [if_pos e]
    refine ((putT_kept hc (h.nd q)).trans (keptT_perm (h.2 q) c)).trans ?_
    unfold keptT
    rw [smT_filter (fun x hx => by simp [hk x hx, e]), List.filter_append, List.filter_filter, List.filter_filter]
    refine .append (.of_eq (List.filter_congr fun x _ => Bool.and_comm _ _)) (.of_eq ?_)
    split
    · rw [List.filter_cons_of_pos (by simp [Th.of, e])]
      rfl
    · rfl
  · rw [if_neg e]
    refine (h.2 q).trans (.of_eq ?_)
    unfold keptT
    rw [List.filter_append, List.filter_filter]
    have : (if c.m + smT c L ≠ 0 then [c.of (c.m + smT c L)] else []).filter (fun h => decide (keyJ cols h.r = q)) = [] := by
      split
      · rw [List.filter_cons_of_neg (by show ¬ decide (keyJ cols c.r = q) = true; rw [decide_eq_true_eq]; exact fun (h : keyJ cols c.r = q) => e h.symm)]
        rfl
      · rfl
    rw [this, List.append_nil]
    refine List.filter_congr fun x _ => ?_
    by_cases hq : keyJ cols x.r = q
    · have : sameT x c = false := by
        cases hs : sameT x c
        · rfl
        · exact absurd (hq.symm.trans (hk x hs)) e
      simp [hq, this]
    · simp [hq]
theorem JOk.keep {cols : List Int} {L : List Th} {f : List UInt8 → List Th} (h : JOk cols L f) (p : Th → Bool) : JOk cols (L.filter p) fun q => (f q).filter p := by
  refine ⟨h.1.filter p, fun q => ((h.2 q).filter p).trans (.of_eq ?_)⟩
  rw [List.filter_filter, List.filter_filter]
  exact List.filter_congr fun x _ => Bool.and_comm _ _
/-! What a change gives. -/
def dtT (left : Bool) (c h : Th) : Int := if left then h.t - c.t else c.t - h.t
def jnT (left : Bool) (c h : Th) : Th := ⟨max c.t h.t, h.m * c.m, if left then c.r ++ h.r else h.r ++ c.r⟩
def eqJ (left : Bool) (own oth : List Int) (c h : Th) : Bool := if left then eqK own oth c.r h.r else eqK oth own h.r c.r
/-- What a change of a side is joined to: 'own' its columns, 'oth' the other side's. -/
def jnL (left : Bool) (own oth : List Int) (lo hi : Int) (c : Th) (l : List Th) : List Th := (l.filter fun h => btw (dtT left c h) lo hi && eqJ left own oth c h).map (jnT left c)
def badJ (c : Th) : Bool := decide (8 < c.r.length)
def jnE (left : Bool) (own oth : List Int) (lo hi mk : Int) (c : Th) (l : List Th) : Int :=
  if okCh c.t c.r c.m then (if hasC c.r own then (if c.t < mk then 12 else (if (jnL left own oth lo hi c l).any badJ then 4 else 0)) else 7) else 1
theorem eqK_symm (on others : List Int) (l r : Rw) : eqK on others l r = eqK others on r l := by
  unfold eqK
  by_cases e : pick l on = pick r others
  · rw [e]
  · have : ¬ pick r others = pick l on := fun h => e h.symm
    simp [e, this]
theorem eqJ_is (left : Bool) (own oth : List Int) (c h : Th) : eqJ left own oth c h = eqK own oth c.r h.r := by
  unfold eqJ
  split
  · rfl
  · exact eqK_symm _ _ _ _
theorem jn_at {left : Bool} {own oth : List Int} {lo hi : Int} {c : Th} {L : List Th} {f : List UInt8 → List Th} (h : JOk oth L f) (hn : own.length = oth.length) (hc : okR c.r = true) (hl : ∀ x ∈ L, okR x.r = true ∧ hasC x.r oth = true) :
    ((if nonul (pick c.r own) then (f (keyJ own c.r)).filter (fun x => btw (dtT left c x) lo hi) else []).map (jnT left c)).Perm (jnL left own oth lo hi c L) := by
  unfold jnL
  refine List.Perm.map _ ?_
  cases hq : nonul (pick c.r own)
  · rw [if_neg (by decide)]
    refine (List.Perm.nil).trans (.of_eq (List.filter_eq_nil_iff.2 fun x _ => ?_).symm)
    rw [eqJ_is]
    unfold eqK
    rw [hq]
    simp
  · rw [if_pos rfl]
    have hk : keyJ own c.r = keyC (pick c.r own) := by unfold keyJ kyF; rw [if_pos hq]; rfl
    refine ((h.2 _).filter _).trans (.of_eq ?_)
    rw [List.filter_filter]
    refine List.filter_congr fun x hx => ?_
    obtain ⟨a, b⟩ := hl x hx
    rw [eqJ_is, eqK_ky hn (okR_all hc) (okR_all a) b]
    congr 1
    rw [decide_eq_decide, hk, keyJ_iff]
    unfold ofS
    rw [if_pos hq]
/-- A side's bounds behind q changes. -/
structure BdT (cols : List Int) (q : Nat) (l : List Th) : Prop where
  nd : Nd l
  ok : ∀ x ∈ l, okR x.r = true ∧ hasC x.r cols = true ∧ -1000000000000 ≤ x.t ∧ x.t ≤ 1000000000000
  num : ∀ x ∈ l, x.m ≠ 0 ∧ -(100 * (q : Int)) ≤ x.m ∧ x.m ≤ 100 * (q : Int)
  len : l.length ≤ q
theorem BdT.nil (cols : List Int) : BdT cols 0 [] := ⟨List.Pairwise.nil, nofun, nofun, Nat.le_refl _⟩
theorem BdT.mono {cols : List Int} {q q' : Nat} {l : List Th} (h : BdT cols q l) (hq : q ≤ q') : BdT cols q' l :=
  ⟨h.nd, h.ok, fun x hx => by have := h.num x hx; exact ⟨this.1, by omega, by omega⟩, Nat.le_trans h.len hq⟩
theorem BdT.filter {cols : List Int} {q : Nat} {l : List Th} (h : BdT cols q l) (p : Th → Bool) : BdT cols q (l.filter p) :=
  ⟨h.nd.filter p, fun x hx => h.ok x (List.mem_filter.1 hx).1, fun x hx => h.num x (List.mem_filter.1 hx).1, Nat.le_trans (List.length_filter_le _ _) h.len⟩
theorem nd_sm {l : List Th} (h : Nd l) (c : Th) : smT c l = 0 ∨ ∃ x ∈ l, sameT x c = true ∧ smT c l = x.m := by
  induction l with
  | nil => exact .inl rfl
  | cons x l ih =>
    obtain ⟨h1, h2⟩ := List.pairwise_cons.1 h
    rw [smT]
    cases e : sameT x c
    · rcases ih h2 with h3 | ⟨y, hy, h4, h5⟩
      · left; rw [h3]; rfl
      · right; exact ⟨y, List.mem_cons_of_mem _ hy, h4, by rw [h5]; simp⟩
    · right
      refine ⟨x, by simp, e, ?_⟩
      rw [smT_none fun y hy => by
        have := h1 y hy
        rw [sameT_left e, sameT_symm] at this
        exact this]
      simp
theorem okCh_at {c : Th} (h : okCh c.t c.r c.m = true) : okR c.r = true ∧ c.m ≠ 0 ∧ -1000000000000 ≤ c.t ∧ c.t ≤ 1000000000000 := by
  unfold okCh at h
  simp only [Bool.and_eq_true] at h
  obtain ⟨⟨h1, h2⟩, h3⟩ := h
  have h1 := btw_iff.1 h1
  unfold numB at h3
  simp only [Bool.and_eq_true, decide_eq_true_eq] at h3
  exact ⟨h2, h3.1, h1.1, h1.2⟩
theorem BdT.kept {cols : List Int} {q : Nat} {l : List Th} (h : BdT cols q l) {c : Th} (hc : okCh c.t c.r c.m = true) (hh : hasC c.r cols = true) (h1 : -100 ≤ c.m) (h2 : c.m ≤ 100) : BdT cols (q + 1) (keptT l c) := by
  obtain ⟨c1, c2, c3, c4⟩ := okCh_at hc
  have hs : -(100 * (q : Int)) ≤ smT c l ∧ smT c l ≤ 100 * (q : Int) := by
    rcases nd_sm h.nd c with e | ⟨x, hx, _, e⟩
    · rw [e]; omega
    · rw [e]; exact (h.num x hx).2
  have hin : ∀ x ∈ keptT l c, x ∈ l ∨ (x = c.of (c.m + smT c l) ∧ c.m + smT c l ≠ 0) := fun x hx => by
    unfold keptT at hx
    rcases List.mem_append.1 hx with hx | hx
    · exact .inl (List.mem_filter.1 hx).1
    · split at hx
      · rename_i hz
        exact .inr ⟨List.mem_singleton.1 hx, hz⟩
      · cases hx
  refine ⟨h.nd.kept c, fun x hx => ?_, fun x hx => ?_, ?_⟩
  · rcases hin x hx with hx | ⟨rfl, _⟩
    · exact h.ok x hx
    · exact ⟨c1, hh, c3, c4⟩
  · rcases hin x hx with hx | ⟨rfl, hz⟩
    · have := h.num x hx
      exact ⟨this.1, by omega, by omega⟩
    · refine ⟨hz, ?_, ?_⟩ <;> simp only [Th.of] <;> omega
  · unfold keptT
    rw [List.length_append]
    have := List.length_filter_le (fun h => !sameT h c) l
    have := h.len
    split <;> simp <;> omega

/-! Lists of changes summed up. -/
def cmpT (x y : Th) : Int := thenC (cmpR x.r y.r) (cmpI x.t y.t)
theorem Tot.th : Tot cmpT := (Tot.row.comap fun x : Th => x.r).seq (Tot.int.comap fun x : Th => x.t)
theorem cmpT_same {x y : Th} (h : sameT x y = true) : cmpT x y = 0 := by
  obtain ⟨h1, h2⟩ := sameT_iff.1 h
  unfold cmpT
  rw [h1, h2, Tot.row.self, Tot.int.self]
  rfl
theorem cmpT_zero {x y : Th} (hx : okR x.r = true) (hy : okR y.r = true) (h : cmpT x y = 0) : sameT x y = true := by
  obtain ⟨h1, h2⟩ := thenC_zero h
  refine sameT_iff.2 ⟨?_, okR_eq hx hy h1⟩
  unfold cmpI at h2
  split at h2
  · cases h2
  · split at h2
    · cases h2
    · omega
def insT (c : Th) : List Th → List Th
  | [] => [c]
  | h :: l => if cmpT c h < 0 then c :: h :: l else h :: insT c l
theorem insT_perm (c : Th) : ∀ l, (insT c l).Perm (c :: l)
  | [] => .refl _
  | h :: l => by
    rw [insT]
    split
    · exact .refl _
    · exact ((insT_perm c l).cons h).trans (.swap _ _ _)
theorem insT_end {c : Th} : ∀ {l : List Th}, (∀ x ∈ l, ¬ cmpT c x < 0) → insT c l = l ++ [c]
  | [], _ => rfl
  | h :: l, hl => by
    rw [insT, if_neg (hl h (by simp)), insT_end fun x hx => hl x (List.mem_cons_of_mem _ hx)]
    rfl
def putC (l : List Th) (c : Th) : List Th := (insT (c.of (c.m + smT c l)) (l.filter fun h => !sameT h c)).filter fun h => decide (h.m ≠ 0)
def sumT (xs : List Th) : List Th := xs.foldl putC []
structure AscT (l : List Th) : Prop where
  ok : ∀ x ∈ l, okR x.r = true
  up : l.Pairwise fun x y => cmpT x y < 0
  nz : ∀ x ∈ l, x.m ≠ 0
theorem AscT.nil : AscT [] := ⟨nofun, List.Pairwise.nil, nofun⟩
theorem insT_up {c : Th} : ∀ {l : List Th}, (l.Pairwise fun x y => cmpT x y < 0) → (∀ x ∈ l, cmpT c x ≠ 0) → (insT c l).Pairwise fun x y => cmpT x y < 0
  | [], _, _ => List.pairwise_singleton _ _
  | h :: l, hu, hc => by
    obtain ⟨h1, h2⟩ := List.pairwise_cons.1 hu
    rw [insT]
    split
    · rename_i hlt
      refine List.pairwise_cons.2 ⟨fun y hy => ?_, hu⟩
      rcases List.mem_cons.1 hy with rfl | hy
      · exact hlt
      · exact Tot.th.lt1 _ _ _ hlt (Int.le_of_lt (h1 y hy))
    · rename_i hlt
      refine List.pairwise_cons.2 ⟨fun y hy => ?_, insT_up h2 fun x hx => hc x (List.mem_cons_of_mem _ hx)⟩
      rcases List.mem_cons.1 ((insT_perm c l).mem_iff.1 hy) with rfl | hy
      · have := hc h (by simp)
        have := Tot.th.anti y h
        omega
      · exact h1 y hy
theorem AscT.put {l : List Th} (h : AscT l) {c : Th} (hc : okR c.r = true) : AscT (putC l c) := by
  have hin : ∀ x ∈ putC l c, x = c.of (c.m + smT c l) ∨ x ∈ l := fun x hx => by
    rcases List.mem_cons.1 ((insT_perm _ _).mem_iff.1 (List.mem_filter.1 hx).1) with h1 | h1
    · exact .inl h1
    · exact .inr (List.mem_filter.1 h1).1
  refine ⟨fun x hx => ?_, ?_, fun x hx => by simpa using (List.mem_filter.1 hx).2⟩
  · rcases hin x hx with rfl | h1
    · exact hc
    · exact h.ok x h1
  · refine (insT_up (h.up.filter _) fun x hx e => ?_).filter _
    obtain ⟨h1, h2⟩ := List.mem_filter.1 hx
    have := cmpT_zero (x := c.of (c.m + smT c l)) hc (h.ok x h1) e
    rw [of_same, sameT_symm] at this
    rw [this] at h2
    cases h2
theorem AscT.sm_put {l : List Th} (c d : Th) : smT d (putC l c) = smT d l + smT d [c] := by
  have hz : ∀ k : List Th, smT d (k.filter fun h => decide (h.m ≠ 0)) = smT d k := fun k => by
    induction k with
    | nil => rfl
    | cons x k ih =>
      rw [List.filter_cons]
      split
      · rw [smT, smT, ih]
      · rename_i hx
        have : x.m = 0 := by simpa using hx
        rw [smT, ih, this]
        simp
  unfold putC
  rw [hz, smT_perm d (insT_perm _ _), smT, smT, of_same]
  show (if sameT c d = true then c.m + smT c l else 0) + smT d (l.filter fun h => !sameT h c) = smT d l + ((if sameT c d = true then c.m else 0) + 0)
  cases e : sameT c d
  · rw [smT_filter fun h hh => by
      cases e2 : sameT h c
      · rfl
      · rw [sameT_left e2, e] at hh; cases hh]
    simp
  · have : smT d (l.filter fun h => !sameT h c) = 0 := smT_none fun x hx => by
      have := (List.mem_filter.1 hx).2
      rw [sameT_symm, ← sameT_left e, sameT_symm]
      simpa using this
    rw [this, smT_same e]
    simp
    omega
theorem AscT.sum {xs : List Th} (h : ∀ x ∈ xs, okR x.r = true) : AscT (sumT xs) ∧ ∀ d, smT d (sumT xs) = smT d xs := by
  have key : ∀ (xs a : List Th), AscT a → (∀ x ∈ xs, okR x.r = true) → AscT (xs.foldl putC a) ∧ ∀ d, smT d (xs.foldl putC a) = smT d a + smT d xs := by
    intro xs
    induction xs with
    | nil => intro a ha _; exact ⟨ha, fun d => by simp [smT]⟩
    | cons x xs ih =>
      intro a ha hx
      obtain ⟨h1, h2⟩ := ih (putC a x) (ha.put (hx x (by simp))) fun y hy => hx y (List.mem_cons_of_mem _ hy)
      refine ⟨h1, fun d => ?_⟩
      rw [List.foldl_cons, h2 d, AscT.sm_put, smT, smT]
      rw [smT]
      omega
  obtain ⟨h1, h2⟩ := key xs [] AscT.nil h
  exact ⟨h1, fun d => by unfold sumT; rw [h2 d]; simp [smT]⟩
theorem AscT.tail {x : Th} {l : List Th} (h : AscT (x :: l)) : AscT l := ⟨fun y hy => h.ok y (List.mem_cons_of_mem _ hy), (List.pairwise_cons.1 h.up).2, fun y hy => h.nz y (List.mem_cons_of_mem _ hy)⟩
theorem AscT.far {x : Th} {l : List Th} (h : AscT (x :: l)) {d : Th} (hd : cmpT d x ≤ 0) : smT d l = 0 := smT_none fun y hy => by
  cases e : sameT y d
  · rfl
  · have h1 := (List.pairwise_cons.1 h.up).1 y hy
    have h2 := cmpT_same e
    have h3 := Tot.th.lt2 _ _ _ hd h1
    have := Tot.th.anti d y
    omega
theorem AscT.ext : ∀ {a b : List Th}, AscT a → AscT b → (∀ d, smT d a = smT d b) → a = b
  | [], [], _, _, _ => rfl
  | [], y :: b, _, h2, h => by
    have := h y
    rw [smT, smT, sameT_refl, if_pos rfl, h2.far (by rw [Tot.th.self]; omega)] at this
    exact absurd (by omega) (h2.nz y (by simp))
  | x :: a, [], h1, _, h => by
    have := h x
    rw [smT, smT, sameT_refl, if_pos rfl, h1.far (by rw [Tot.th.self]; omega)] at this
    exact absurd (by omega) (h1.nz x (by simp))
  | x :: a, y :: b, h1, h2, h => by
    have hx := h x
    have hy := h y
    rw [smT, smT, sameT_refl, if_pos rfl, h1.far (by rw [Tot.th.self]; omega)] at hx
    rw [smT, smT, sameT_refl, if_pos rfl, h2.far (d := y) (by rw [Tot.th.self]; omega)] at hy
    have nx := h1.nz x (by simp)
    have ny := h2.nz y (by simp)
    have ha := Tot.th.anti x y
    have he : sameT x y = true := by
      refine cmpT_zero (h1.ok x (by simp)) (h2.ok y (by simp)) ?_
      rcases Int.lt_trichotomy (cmpT x y) 0 with hc | hc | hc
      · have e : sameT y x = false := by
          cases e : sameT y x
          · rfl
          · have := cmpT_same e; omega
        rw [e, h2.far (d := x) (by omega)] at hx
        simp at hx
        omega
      · exact hc
      · have e : sameT x y = false := by
          cases e : sameT x y
          · rfl
          · have := cmpT_same e; omega
        rw [e, h1.far (d := y) (by omega)] at hy
        simp at hy
        omega
    rw [sameT_symm, he, if_pos rfl, h2.far (d := x) (by rw [cmpT_same he]; omega)] at hx
    have hxy : x = y := th_eq he (by omega)
    subst hxy
    rw [AscT.ext h1.tail h2.tail fun d => ?_]
    have := h d
    rw [smT, smT] at this
    omega
theorem sumT_perm {a b : List Th} (h : a.Perm b) (ha : ∀ x ∈ a, okR x.r = true) : sumT a = sumT b := by
  obtain ⟨h1, h2⟩ := AscT.sum ha
  obtain ⟨h3, h4⟩ := AscT.sum (xs := b) fun x hx => ha x (h.mem_iff.2 hx)
  exact AscT.ext h1 h3 fun d => by rw [h2, h4, smT_perm d h]
theorem sumT_sum {a : List Th} (ha : ∀ x ∈ a, okR x.r = true) : sumT (sumT a) = sumT a := by
  obtain ⟨h1, h2⟩ := AscT.sum ha
  obtain ⟨h3, h4⟩ := AscT.sum h1.ok
  exact AscT.ext h3 h1 h4
end

end Go.Proofs.YtoapjidpfghnlaaGreatDoor
