/-
  Plain laws of merged windows: a list of windows covers points (at doubled integers, so that a window is an open interval); ascending lists of windows that do not meet are told by what they cover.
-/
import Derived.Test.YtehifbogadohgaaCkVal2
namespace Go.Proofs.Ytehifbogadohgaa
set_option linter.unusedVariables false

abbrev Wd := Int × Int
/-- A window covers a point. -/
def InW (w : Wd) (x : Int) : Prop := 2 * w.1 < x ∧ x < 2 * w.2
def Cov (l : List Wd) (x : Int) : Prop := ∃ w ∈ l, InW w x
/-- Ascending, none empty, none meet. -/
def Dis (l : List Wd) : Prop := (∀ w ∈ l, w.1 < w.2) ∧ l.Pairwise (fun a b => a.2 ≤ b.1)
theorem Cov.nil (x : Int) : ¬ Cov [] x := fun ⟨_, h, _⟩ => by cases h
theorem cov_app {a b : List Wd} {x : Int} : Cov (a ++ b) x ↔ Cov a x ∨ Cov b x := by
  constructor
  · rintro ⟨w, hw, h⟩
    rcases List.mem_append.1 hw with hw | hw
    · exact .inl ⟨w, hw, h⟩
    · exact .inr ⟨w, hw, h⟩
  · rintro (⟨w, hw, h⟩ | ⟨w, hw, h⟩)
    · exact ⟨w, List.mem_append_left _ hw, h⟩
    · exact ⟨w, List.mem_append_right _ hw, h⟩
theorem cov_one {w : Wd} {x : Int} : Cov [w] x ↔ InW w x := by
  constructor
  · rintro ⟨v, hv, h⟩
    rw [List.mem_singleton] at hv
    rw [← hv]; exact h
  · intro h; exact ⟨w, List.mem_singleton_self _, h⟩
theorem cov_cons {w : Wd} {l : List Wd} {x : Int} : Cov (w :: l) x ↔ InW w x ∨ Cov l x := by
  rw [show w :: l = [w] ++ l from rfl, cov_app, cov_one]
theorem cov_perm {a b : List Wd} (h : a.Perm b) (x : Int) : Cov a x ↔ Cov b x :=
  ⟨fun ⟨w, hw, k⟩ => ⟨w, h.mem_iff.1 hw, k⟩, fun ⟨w, hw, k⟩ => ⟨w, h.mem_iff.2 hw, k⟩⟩
theorem Dis.nil : Dis [] := ⟨by simp, List.Pairwise.nil⟩
theorem Dis.tail {w : Wd} {l : List Wd} (h : Dis (w :: l)) : Dis l := ⟨fun x hx => h.1 x (List.mem_cons_of_mem _ hx), (List.pairwise_cons.1 h.2).2⟩
theorem Dis.head {w : Wd} {l : List Wd} (h : Dis (w :: l)) : ∀ x ∈ l, w.2 ≤ x.1 := (List.pairwise_cons.1 h.2).1
theorem Dis.sub {a b : List Wd} (h : Dis b) (hs : a.Sublist b) : Dis a := ⟨fun x hx => h.1 x (hs.subset hx), h.2.sublist hs⟩
theorem cov_tail {w : Wd} {l : List Wd} (h : Dis (w :: l)) (x : Int) : Cov l x ↔ Cov (w :: l) x ∧ 2 * w.2 < x := by
  have h0 := h.1 w List.mem_cons_self
  rw [cov_cons]
  constructor
  · rintro ⟨v, hv, h1, h2⟩
    have := h.head v hv
    exact ⟨.inr ⟨v, hv, h1, h2⟩, by omega⟩
  · rintro ⟨h1 | h1, h2⟩
    · unfold InW at h1; omega
    · exact h1
theorem dis_head_le {w v : Wd} {l k : List Wd} (h : Dis (w :: l)) (h' : Dis (v :: k)) (hc : ∀ x, Cov (w :: l) x ↔ Cov (v :: k) x) : w.1 ≤ v.1 ∧ (w.1 = v.1 → w.2 ≤ v.2) := by
  have hw := h.1 w List.mem_cons_self
  have hv := h'.1 v List.mem_cons_self
  have c1 : Cov (w :: l) (2 * v.1 + 1) := (hc _).2 ⟨v, List.mem_cons_self, by unfold InW; omega⟩
  refine ⟨?_, fun e => ?_⟩
  · obtain ⟨u, hu, h1, h2⟩ := c1
    rcases List.mem_cons.1 hu with rfl | hu
    · omega
    · have := h.head u hu; omega
  · refine Int.not_lt.1 fun hl => ?_
    have c2 : Cov (v :: k) (2 * v.2) := (hc _).1 ⟨w, List.mem_cons_self, by unfold InW; omega⟩
    obtain ⟨u, hu, h1, h2⟩ := c2
    rcases List.mem_cons.1 hu with rfl | hu
    · omega
    · have := h'.head u hu; omega
/-- Two such lists that cover the same points are equal. -/
theorem dis_ext : ∀ {a b : List Wd}, Dis a → Dis b → (∀ x, Cov a x ↔ Cov b x) → a = b
  | [], [], _, _, _ => rfl
  | [], v :: k, _, h', hc => absurd ((hc (2 * v.1 + 1)).2 ⟨v, List.mem_cons_self, by have := h'.1 v List.mem_cons_self; unfold InW; omega⟩) (Cov.nil _)
  | w :: l, [], h, _, hc => absurd ((hc (2 * w.1 + 1)).1 ⟨w, List.mem_cons_self, by have := h.1 w List.mem_cons_self; unfold InW; omega⟩) (Cov.nil _)
  | w :: l, v :: k, h, h', hc => by
    have h1 := dis_head_le h h' hc
    have h2 := dis_head_le h' h fun x => (hc x).symm
    have e1 : w.1 = v.1 := by omega
    have e2 : w.2 = v.2 := by have := h1.2 e1; have := h2.2 e1.symm; omega
    have e : w = v := Prod.ext e1 e2
    subst e
    rw [dis_ext h.tail h'.tail fun x => by rw [cov_tail h, cov_tail h', hc]]

/-- Windows that meet do not lie apart. -/
theorem meet_no {a b : Wd} (ha : a.1 < a.2) (hb : b.1 < b.2) : meetB a.1 a.2 b.1 b.2 = false ↔ a.2 ≤ b.1 ∨ b.2 ≤ a.1 := by
  unfold meetB
  rw [decide_eq_false_iff_not]
  omega
theorem meet_in {a b : Wd} (h : meetB a.1 a.2 b.1 b.2 = true) (ha : a.1 < a.2) (hb : b.1 < b.2) (x : Int) : InW (min a.1 b.1, max a.2 b.2) x ↔ InW a x ∨ InW b x := by
  unfold meetB at h
  rw [decide_eq_true_iff] at h
  unfold InW
  simp only
  omega

/-- What is known of a merged list: which windows it is made of. -/
structure Mg (l out : List Wd) : Prop where
  dis : Dis out
  cov : ∀ x, Cov out x ↔ Cov l x
  lo : ∀ o ∈ out, ∃ w ∈ l, w.1 = o.1
  hi : ∀ o ∈ out, ∃ w ∈ l, w.2 = o.2
theorem Mg.nil : Mg [] [] := ⟨Dis.nil, fun _ => Iff.rfl, by simp, by simp⟩
theorem Mg.one {a b l : List Wd} (h : Mg l a) (k : Mg l b) : a = b := dis_ext h.dis k.dis fun x => (h.cov x).trans (k.cov x).symm
theorem Mg.perm {l l' out : List Wd} (h : Mg l out) (hp : l.Perm l') : Mg l' out :=
  ⟨h.dis, fun x => (h.cov x).trans (cov_perm hp x), fun o ho => (h.lo o ho).imp fun w hw => ⟨hp.mem_iff.1 hw.1, hw.2⟩, fun o ho => (h.hi o ho).imp fun w hw => ⟨hp.mem_iff.1 hw.1, hw.2⟩⟩
theorem Mg.again {l out out' : List Wd} (h : Mg l out) (k : Mg out out') : out' = out := dis_ext k.dis h.dis k.cov
/-- Each window given lies within one of the merged ones. -/
theorem Mg.within {l out : List Wd} (h : Mg l out) {w : Wd} (hw : w ∈ l) (h0 : w.1 < w.2) : ∃ o ∈ out, o.1 ≤ w.1 ∧ w.2 ≤ o.2 := by
  obtain ⟨o, ho, h1, h2⟩ := (h.cov (2 * w.1 + 1)).2 ⟨w, hw, by unfold InW; omega⟩
  refine ⟨o, ho, by omega, Int.not_lt.1 fun hl => ?_⟩
  obtain ⟨u, hu, k1, k2⟩ := (h.cov (2 * o.2)).2 ⟨w, hw, by unfold InW; omega⟩
  have hou := h.dis.1 o ho
  have huu := h.dis.1 u hu
  obtain ⟨i, hi⟩ := List.mem_iff_getElem?.1 ho
  obtain ⟨j, hj⟩ := List.mem_iff_getElem?.1 hu
  obtain ⟨hi', rfl⟩ := List.getElem?_eq_some_iff.1 hi
  obtain ⟨hj', rfl⟩ := List.getElem?_eq_some_iff.1 hj
  rcases Nat.lt_trichotomy i j with hij | hij | hij
  · have := List.pairwise_iff_getElem.1 h.dis.2 i j hi' hj' hij; omega
  · subst hij; omega
  · have := List.pairwise_iff_getElem.1 h.dis.2 j i hj' hi' hij; omega
/-- No two merged windows touch. -/
theorem Dis.apart {out : List Wd} (h : Dis out) {i j : Nat} {a b : Wd} (hij : j < i) (ha : out[i]? = some a) (hb : out[j]? = some b) : meetB a.1 a.2 b.1 b.2 = false := by
  obtain ⟨hi, rfl⟩ := List.getElem?_eq_some_iff.1 ha
  obtain ⟨hj, rfl⟩ := List.getElem?_eq_some_iff.1 hb
  exact (meet_no (h.1 _ (List.getElem_mem _)) (h.1 _ (List.getElem_mem _))).2 (.inr (List.pairwise_iff_getElem.1 h.2 j i hj hi hij))

/-! The program's sweep -/
theorem dis_snoc {p : List Wd} {w : Wd} (h : Dis p) (hw : w.1 < w.2) (hp : ∀ x ∈ p, x.2 ≤ w.1) : Dis (p ++ [w]) :=
  ⟨fun x hx => by
    rcases List.mem_append.1 hx with hx | hx
    · exact h.1 x hx
    · rw [List.mem_singleton] at hx; rw [hx]; exact hw, List.pairwise_append.2 ⟨h.2, List.pairwise_singleton _ _, fun x hx y hy => by rw [List.mem_singleton] at hy; rw [hy]; exact hp x hx⟩⟩
theorem dis_last {p : List Wd} {q : Wd} (h : Dis (p ++ [q])) : Dis p ∧ q.1 < q.2 ∧ ∀ x ∈ p, x.2 ≤ q.1 :=
  ⟨h.sub (List.sublist_append_left _ _), h.1 q (by simp), fun x hx => (List.pairwise_append.1 h.2).2.2 x hx q (List.mem_singleton_self _)⟩
theorem Mg.touch {l p : List Wd} {q w : Wd} (h : Mg l (p ++ [q])) (hw : w.1 < w.2) (hle : ∀ x ∈ l, x.1 ≤ w.1) (hm : meetB q.1 q.2 w.1 w.2 = true) : Mg (l ++ [w]) (p ++ [(q.1, max q.2 w.2)]) := by
  obtain ⟨h1, h2, h3⟩ := dis_last h.dis
  obtain ⟨v, hv, e⟩ := h.lo q (by simp)
  have hq := hle v hv
  have em : (min q.1 w.1, max q.2 w.2) = (q.1, max q.2 w.2) := by congr 1; omega
  refine ⟨dis_snoc h1 (by simp only; omega) (fun x hx => h3 x hx), fun x => ?_, fun o ho => ?_, fun o ho => ?_⟩
  · have hc := h.cov x
    rw [cov_app, cov_one] at hc
    rw [cov_app, cov_one, cov_app, cov_one, ← em, meet_in hm h2 hw, ← hc]
    exact or_assoc.symm
  · rcases List.mem_append.1 ho with ho | ho
    · obtain ⟨u, hu, e⟩ := h.lo o (List.mem_append_left _ ho)
      exact ⟨u, List.mem_append_left _ hu, e⟩
    · rw [List.mem_singleton] at ho
      subst ho
      exact ⟨v, List.mem_append_left _ hv, e⟩
  · rcases List.mem_append.1 ho with ho | ho
    · obtain ⟨u, hu, e⟩ := h.hi o (List.mem_append_left _ ho)
      exact ⟨u, List.mem_append_left _ hu, e⟩
    · rw [List.mem_singleton] at ho
      subst ho
      obtain ⟨u, hu, e⟩ := h.hi q (by simp)
      by_cases hmx : q.2 ≤ w.2
      · exact ⟨w, by simp, by simp only; omega⟩
      · exact ⟨u, List.mem_append_left _ hu, by simp only; omega⟩
theorem Mg.first {l : List Wd} {w : Wd} (h : Mg l []) (hl : l = []) (hw : w.1 < w.2) : Mg (l ++ [w]) [w] := by
  subst hl
  exact ⟨dis_snoc Dis.nil hw (by simp), fun _ => Iff.rfl, fun o ho => ⟨o, ho, rfl⟩, fun o ho => ⟨o, ho, rfl⟩⟩
theorem Mg.apart {l p : List Wd} {q w : Wd} (h : Mg l (p ++ [q])) (hw : w.1 < w.2) (hle : ∀ x ∈ l, x.1 ≤ w.1) (hm : meetB q.1 q.2 w.1 w.2 = false) : Mg (l ++ [w]) (p ++ [q] ++ [w]) := by
  obtain ⟨h1, h2, h3⟩ := dis_last h.dis
  obtain ⟨v, hv, e⟩ := h.lo q (by simp)
  have hq := hle v hv
  have ha : q.2 ≤ w.1 := by rcases (meet_no h2 hw).1 hm with hm | hm <;> omega
  refine ⟨dis_snoc h.dis hw fun x hx => ?_, fun x => ?_, fun o ho => ?_, fun o ho => ?_⟩
  · rcases List.mem_append.1 hx with hx | hx
    · have := h3 x hx; omega
    · rw [List.mem_singleton] at hx; rw [hx]; exact ha
  · rw [cov_app, cov_app (a := l), h.cov]
  · rcases List.mem_append.1 ho with ho | ho
    · obtain ⟨u, hu, e⟩ := h.lo o ho
      exact ⟨u, List.mem_append_left _ hu, e⟩
    · rw [List.mem_singleton] at ho; exact ⟨w, by simp, by rw [ho]⟩
  · rcases List.mem_append.1 ho with ho | ho
    · obtain ⟨u, hu, e⟩ := h.hi o ho
      exact ⟨u, List.mem_append_left _ hu, e⟩
    · rw [List.mem_singleton] at ho; exact ⟨w, by simp, by rw [ho]⟩

/-! The reference's pass and Put -/
/-- Within a pass over out: rest and w, and what of out is still to come, cover what l does. -/
structure Ps (l rest : List Wd) (w : Wd) (todo : List Wd) : Prop where
  dis : Dis (rest ++ todo)
  ok : w.1 < w.2
  cov : ∀ x, (Cov rest x ∨ InW w x ∨ Cov todo x) ↔ Cov l x
  lo : ∀ o, o ∈ rest ∨ o = w ∨ o ∈ todo → ∃ v ∈ l, v.1 = o.1
  hi : ∀ o, o ∈ rest ∨ o = w ∨ o ∈ todo → ∃ v ∈ l, v.2 = o.2
theorem Ps.start {l out : List Wd} {w : Wd} (h : Mg l out) (hw : w.1 < w.2) : Ps (l ++ [w]) [] w out :=
  ⟨h.dis, hw, fun x => by
    rw [cov_app, cov_one, ← h.cov]
    constructor
    · rintro (k | k | k)
      · exact absurd k (Cov.nil _)
      · exact .inr k
      · exact .inl k
    · rintro (k | k)
      · exact .inr (.inr k)
      · exact .inr (.inl k), fun o ho => by
    rcases ho with ho | rfl | ho
    · cases ho
    · exact ⟨o, by simp, rfl⟩
    · obtain ⟨u, hu, e⟩ := h.lo o ho; exact ⟨u, List.mem_append_left _ hu, e⟩, fun o ho => by
    rcases ho with ho | rfl | ho
    · cases ho
    · exact ⟨o, by simp, rfl⟩
    · obtain ⟨u, hu, e⟩ := h.hi o ho; exact ⟨u, List.mem_append_left _ hu, e⟩⟩
theorem Ps.keep {l rest todo : List Wd} {w y : Wd} (h : Ps l rest w (y :: todo)) : Ps l (rest ++ [y]) w todo :=
  ⟨by have := h.dis; rwa [List.append_assoc, List.singleton_append], h.ok, fun x => by
    rw [← h.cov, cov_app, cov_one, cov_cons]
    constructor
    · rintro ((k | k) | k | k)
      · exact .inl k
      · exact .inr (.inr (.inl k))
      · exact .inr (.inl k)
      · exact .inr (.inr (.inr k))
    · rintro (k | k | k | k)
      · exact .inl (.inl k)
      · exact .inr (.inl k)
      · exact .inl (.inr k)
      · exact .inr (.inr k), fun o ho => h.lo o (by
    rcases ho with ho | ho | ho
    · rcases List.mem_append.1 ho with ho | ho
      · exact .inl ho
      · rw [List.mem_singleton] at ho; exact .inr (.inr (by simp [ho]))
    · exact .inr (.inl ho)
    · exact .inr (.inr (List.mem_cons_of_mem _ ho))), fun o ho => h.hi o (by
    rcases ho with ho | ho | ho
    · rcases List.mem_append.1 ho with ho | ho
      · exact .inl ho
      · rw [List.mem_singleton] at ho; exact .inr (.inr (by simp [ho]))
    · exact .inr (.inl ho)
    · exact .inr (.inr (List.mem_cons_of_mem _ ho)))⟩
theorem Ps.join {l rest todo : List Wd} {w y : Wd} (h : Ps l rest w (y :: todo)) (hm : meetB y.1 y.2 w.1 w.2 = true) : Ps l rest (min w.1 y.1, max w.2 y.2) todo := by
  have hy : y.1 < y.2 := h.dis.1 y (by simp)
  have hw := h.ok
  have em : (min w.1 y.1, max w.2 y.2) = (min y.1 w.1, max y.2 w.2) := by congr 1 <;> omega
  refine ⟨h.dis.sub (List.Sublist.append_left (List.sublist_cons_self _ _) _), by simp only; omega, fun x => ?_, fun o ho => ?_, fun o ho => ?_⟩
  · rw [← h.cov, cov_cons, em, meet_in hm hy hw]
    constructor
    · rintro (k | (k | k) | k)
      · exact .inl k
      · exact .inr (.inr (.inl k))
      · exact .inr (.inl k)
      · exact .inr (.inr (.inr k))
    · rintro (k | k | k | k)
      · exact .inl k
      · exact .inr (.inl (.inr k))
      · exact .inr (.inl (.inl k))
      · exact .inr (.inr k)
  · rcases ho with ho | ho | ho
    · exact h.lo o (.inl ho)
    · subst ho
      by_cases hc : w.1 ≤ y.1
      · obtain ⟨u, hu, e⟩ := h.lo w (.inr (.inl rfl)); exact ⟨u, hu, by simp only; omega⟩
      · obtain ⟨u, hu, e⟩ := h.lo y (.inr (.inr (by simp))); exact ⟨u, hu, by simp only; omega⟩
    · exact h.lo o (.inr (.inr (List.mem_cons_of_mem _ ho)))
  · rcases ho with ho | ho | ho
    · exact h.hi o (.inl ho)
    · subst ho
      by_cases hc : y.2 ≤ w.2
      · obtain ⟨u, hu, e⟩ := h.hi w (.inr (.inl rfl)); exact ⟨u, hu, by simp only; omega⟩
      · obtain ⟨u, hu, e⟩ := h.hi y (.inr (.inr (by simp))); exact ⟨u, hu, by simp only; omega⟩
    · exact h.hi o (.inr (.inr (List.mem_cons_of_mem _ ho)))
/-- The next pass begins. -/
theorem Ps.turn {l rest : List Wd} {w : Wd} (h : Ps l rest w []) : Ps l [] w rest :=
  ⟨by have := h.dis; rwa [List.append_nil] at this, h.ok, fun x => by
    rw [← h.cov]
    constructor
    · rintro (k | k | k)
      · exact absurd k (Cov.nil _)
      · exact .inr (.inl k)
      · exact .inl k
    · rintro (k | k | k)
      · exact .inr (.inr k)
      · exact .inr (.inl k)
      · exact absurd k (Cov.nil _), fun o ho => h.lo o (by
    rcases ho with ho | ho | ho
    · cases ho
    · exact .inr (.inl ho)
    · exact .inl ho), fun o ho => h.hi o (by
    rcases ho with ho | ho | ho
    · cases ho
    · exact .inr (.inl ho)
    · exact .inl ho)⟩
/-- Put: w goes where it belongs. -/
theorem Ps.put {l a b : List Wd} {w : Wd} (h : Ps l [] w (a ++ b)) (ha : ∀ x ∈ a, x.2 ≤ w.1) (hb : ∀ x ∈ b, w.2 ≤ x.1) : Mg l (a ++ [w] ++ b) := by
  have hd : Dis (a ++ b) := h.dis
  have h1 := dis_snoc (hd.sub (List.sublist_append_left _ _)) h.ok ha
  have h2 := hd.sub (List.sublist_append_right a b)
  have hw := h.ok
  refine ⟨⟨fun x hx => ?_, List.pairwise_append.2 ⟨h1.2, h2.2, fun x hx y hy => ?_⟩⟩, fun x => ?_, fun o ho => ?_, fun o ho => ?_⟩
  · rcases List.mem_append.1 hx with hx | hx
    · exact h1.1 x hx
    · exact h2.1 x hx
  · have := hb y hy
    rcases List.mem_append.1 hx with hx | hx
    · have := ha x hx; omega
    · rw [List.mem_singleton] at hx; rw [hx]; omega
  · rw [← h.cov, cov_app, cov_app, cov_app, cov_one]
    constructor
    · rintro ((k | k) | k)
      · exact .inr (.inr (.inl k))
      · exact .inr (.inl k)
      · exact .inr (.inr (.inr k))
    · rintro (k | k | k | k)
      · exact absurd k (Cov.nil _)
      · exact .inl (.inr k)
      · exact .inl (.inl k)
      · exact .inr k
  · refine h.lo o ?_
    rcases List.mem_append.1 ho with ho | ho
    · rcases List.mem_append.1 ho with ho | ho
      · exact .inr (.inr (List.mem_append_left _ ho))
      · rw [List.mem_singleton] at ho; exact .inr (.inl ho)
    · exact .inr (.inr (List.mem_append_right _ ho))
  · refine h.hi o ?_
    rcases List.mem_append.1 ho with ho | ho
    · rcases List.mem_append.1 ho with ho | ho
      · exact .inr (.inr (List.mem_append_left _ ho))
      · rw [List.mem_singleton] at ho; exact .inr (.inl ho)
    · exact .inr (.inr (List.mem_append_right _ ho))
theorem cmpW_pos {a b : Wd} : (0 < cmpW a.1 a.2 b.1 b.2) ↔ (b.1 < a.1 ∨ (b.1 = a.1 ∧ b.2 < a.2)) := by
  unfold cmpW orI cmpI
  split <;> split <;> (try split) <;> (try split) <;> omega
/-- Where Compare says that w comes behind x, and they do not meet, x ends ahead of w. -/
theorem put_side {w x : Wd} (hw : w.1 < w.2) (hx : x.1 < x.2) (hm : meetB x.1 x.2 w.1 w.2 = false) : (0 < cmpW w.1 w.2 x.1 x.2 → x.2 ≤ w.1) ∧ (cmpW w.1 w.2 x.1 x.2 ≤ 0 → w.2 ≤ x.1) := by
  have h1 := (meet_no hx hw).1 hm
  have h2 := @cmpW_pos w x
  constructor
  · intro h
    have := h2.1 h
    omega
  · intro h
    have : ¬ (x.1 < w.1 ∨ (x.1 = w.1 ∧ x.2 < w.2)) := fun k => by have := h2.2 k; omega
    omega
end Go.Proofs.Ytehifbogadohgaa
