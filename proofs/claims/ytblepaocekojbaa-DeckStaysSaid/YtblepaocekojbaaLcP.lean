/-
  What the program's Local holds in its maps, in plain words; how its search for a slot ends.
-/
import Derived.Test.YtblepaocekojbaaLcR0
namespace Go.Proofs.Ytblepaocekojbaa
open Go.RowKit Go.Shelf Go.Maps Go.Deep
set_option linter.unusedVariables false

theorem zeroP (w : World) : (zeroValue 85).run Try.prog w = .ok (.agg #[.int .i64 0, .int .i64 0]) w := by kernel_rfl
theorem win_wf {n : Nat} {ss : List Int} {p : Pl} (h : winB n ss p = true) (hn : n ≤ 20) (hs : ∀ k, k < n → ss[k]? = some ((natA ss k : Nat) : Int) ∧ natA ss k ≤ 16) : PlW p ∧ 0 ≤ p.m ∧ p.m < 20 ∧ 0 ≤ p.s ∧ p.s < 16 := by
  obtain ⟨a, i, h1, h2, rfl⟩ := slotsL_mem.1 (slots_of_win h)
  have h3 := (hs a h1).2
  exact ⟨⟨wf_nat (by omega), wf_nat (by omega)⟩, by show (0 : Int) ≤ (a : Int); omega, by show (a : Int) < 20; omega, by show (0 : Int) ≤ (i : Int); omega, by show (i : Int) < 16; omega⟩
/-- had: the old place of the least of the first k tasks at a place that had one. -/
def HadI (lo ln : List Pl) (k : Nat) (F : Lit → Option Value) : Prop := ∀ p, PlW p → F (pk p) = (hadF (plA lo) (plA ln) k p).map plV
theorem HadI.start (lo ln : List Pl) : HadI lo ln 0 (fun _ => none) := fun _ _ => rfl
theorem HadI.put {lo ln : List Pl} {k : Nat} {F : Lit → Option Value} (h : HadI lo ln k F) (hw : PlW (plA ln k)) (h0 : hadF (plA lo) (plA ln) k (plA ln k) = none) (hm : 0 ≤ (plA lo k).m) (hs : 0 ≤ (plA lo k).s) : HadI lo ln (k + 1) (putF F (pk (plA ln k)) (plV (plA lo k))) := by
  intro p hp
  unfold putF
  by_cases e : p = plA ln k
  · subst e
    rw [if_pos rfl, hadF_succ, h0]
    simp [hm, hs]
  · rw [if_neg (fun e2 => e (pk_inj hp hw e2)), h p hp, hadF_succ]
    cases hadF (plA lo) (plA ln) k p with
    | some o => rfl
    | none => simp only []; rw [if_neg (by rintro ⟨h1, _⟩; exact e h1.symm)]
theorem HadI.skip {lo ln : List Pl} {k : Nat} {F : Lit → Option Value} (h : HadI lo ln k F) (h0 : hadF (plA lo) (plA ln) k (plA ln k) ≠ none ∨ ¬ (0 ≤ (plA lo k).m ∧ 0 ≤ (plA lo k).s)) : HadI lo ln (k + 1) F := by
  intro p hp
  rw [h p hp, hadF_succ]
  cases hh : hadF (plA lo) (plA ln) k p with
  | some o => rfl
  | none =>
    simp only []
    rw [if_neg]
    rintro ⟨h1, h2, h3⟩
    rcases h0 with h0 | h0
    · rw [h1] at h0; exact h0 hh
    · exact h0 ⟨h2, h3⟩
theorem HadI.val {lo ln : List Pl} {k : Nat} {F : Lit → Option Value} (h : HadI lo ln k F) {p : Pl} (hp : PlW p) : ∃ v : Pl, (F (pk p)).getD (.agg #[.int .i64 0, .int .i64 0]) = .agg #[.int .i64 v.m, .int .i64 v.s] ∧ v = (hadF (plA lo) (plA ln) k p).getD ⟨0, 0⟩ ∧ (F (pk p)).isSome = (hadF (plA lo) (plA ln) k p).isSome := by
  rw [h p hp]
  cases hadF (plA lo) (plA ln) k p with
  | some o => exact ⟨o, rfl, rfl, rfl⟩
  | none => exact ⟨⟨0, 0⟩, rfl, rfl, rfl⟩
theorem had_old {lo ln : List Pl} {k : Nat} {p o : Pl} (h : hadF (plA lo) (plA ln) k p = some o) : ∃ u, u < k ∧ o = plA lo u := by
  induction k with
  | zero => cases h
  | succ k ih =>
    rw [hadF_succ] at h
    cases hh : hadF (plA lo) (plA ln) k p with
    | some o' =>
      rw [hh] at h
      obtain ⟨u, h1, h2⟩ := ih (hh.trans h)
      exact ⟨u, by omega, h2⟩
    | none =>
      rw [hh] at h
      simp only [] at h
      split at h
      · injection h with h
        exact ⟨k, by omega, h.symm⟩
      · cases h
/-- taken: the places of a list. -/
def TakI (tk : List Pl) (F : Lit → Option Value) : Prop := ∀ p, PlW p → F (pk p) = if p ∈ tk then some (.bool true) else none
theorem TakI.start : TakI [] (fun _ => none) := fun _ _ => by simp
theorem TakI.put {tk : List Pl} {F : Lit → Option Value} (h : TakI tk F) {c : Pl} (hc : PlW c) : TakI (tk ++ [c]) (putF F (pk c) (.bool true)) := by
  intro p hp
  unfold putF
  by_cases e : p = c
  · subst e; simp
  · rw [if_neg (fun e2 => e (pk_inj hp hc e2)), h p hp]
    simp [e]
theorem TakI.val {tk : List Pl} {F : Lit → Option Value} (h : TakI tk F) {p : Pl} (hp : PlW p) : (F (pk p)).getD (.bool false) = .bool (decide (p ∈ tk)) := by
  rw [h p hp]
  by_cases e : p ∈ tk <;> simp [e]
/-- to: where the first i places of a list go. -/
def ToI (us tk : List Pl) (i : Nat) (F : Lit → Option Value) : Prop := ∀ j, j < i → F (pk (plA us j)) = some (plV (plA tk j))
theorem ToI.start (us tk : List Pl) : ToI us tk 0 (fun _ => none) := fun _ h => absurd h (Nat.not_lt_zero _)
theorem plA_old {tk : List Pl} {c : Pl} {j : Nat} (h : j < tk.length) : plA (tk ++ [c]) j = plA tk j := by
  unfold plA; rw [List.getElem?_append_left h]
theorem plA_new {tk : List Pl} {c : Pl} : plA (tk ++ [c]) tk.length = c := by
  unfold plA; simp
theorem plA_mem {l : List Pl} {j : Nat} (h : j < l.length) : plA l j ∈ l := by
  unfold plA; rw [List.getElem?_eq_getElem h]; exact List.getElem_mem h
theorem plA_inj {l : List Pl} (hn : l.Nodup) {i j : Nat} (hi : i < l.length) (hj : j < l.length) (h : plA l i = plA l j) : i = j := by
  unfold plA at h
  rw [List.getElem?_eq_getElem hi, List.getElem?_eq_getElem hj] at h
  have h' : l[i] = l[j] := h
  rcases Nat.lt_trichotomy i j with h1 | h1 | h1
  · exact absurd h' ((List.pairwise_iff_getElem.1 hn) i j hi hj h1)
  · exact h1
  · exact absurd h'.symm ((List.pairwise_iff_getElem.1 hn) j i hj hi h1)
theorem ToI.put {us tk : List Pl} {i : Nat} {F : Lit → Option Value} (h : ToI us tk i F) (hn : us.Nodup) (hi : i < us.length) (ht : tk.length = i) (hw : ∀ p ∈ us, PlW p) (c : Pl) : ToI us (tk ++ [c]) (i + 1) (putF F (pk (plA us i)) (plV c)) := by
  intro j hj
  unfold putF
  by_cases e : j = i
  · subst e
    rw [if_pos rfl, ← ht, plA_new]
  · rw [if_neg (fun e2 => e (plA_inj hn (by omega) hi (pk_inj (hw _ (plA_mem (by omega))) (hw _ (plA_mem hi)) e2))), h j (by omega), plA_old (by omega)]
/-- The sorted places in use are those of the slots in use. -/
theorem srt_used {n : Nat} {ss : List Int} {ln l' : List Pl} {q : Nat} (hq : ln.length = q) (hp : l'.Perm (ddP (plA ln) q)) (hs : l'.Pairwise fun x y => ¬ ltPl y x) (hw : ∀ p ∈ ln, winB n ss p = true) : l' = usedL (natA ss) n ln := by
  have hnd : l'.Nodup := hp.nodup_iff.2 (ddP_nodup _ _)
  have hmem : ∀ x, x ∈ l' ↔ x ∈ ln := fun x => by
    rw [hp.mem_iff, ddP_mem]
    constructor
    · rintro ⟨t, ht, rfl⟩; exact plA_mem (by omega)
    · intro hx
      obtain ⟨t, ht, rfl⟩ := List.getElem_of_mem hx
      exact ⟨t, by omega, by unfold plA; rw [List.getElem?_eq_getElem ht]; rfl⟩
  refine asc_one ?_ ((slotsL_asc _ _).sublist List.filter_sublist) fun x => ?_
  · refine (List.Pairwise.and hs (List.nodup_iff_pairwise_ne.1 hnd)).imp fun {a b} h => ?_
    obtain ⟨h1, h2⟩ := h
    obtain ⟨a1, a2⟩ := a
    obtain ⟨b1, b2⟩ := b
    unfold ltPl at *
    simp only at *
    have h3 : ¬ (a1 = b1 ∧ a2 = b2) := fun h => h2 (by rw [h.1, h.2])
    omega
  · rw [hmem]
    unfold usedL
    rw [List.mem_filter, decide_eq_true_eq]
    exact ⟨fun h => ⟨slots_of_win (hw x h), h⟩, fun h => h.2⟩
/-- How the search for a slot stands: done, or all slots so far are taken. -/
def AtJ (tk pre : List Pl) (c T a : Pl) : Prop := (a ∉ tk ∧ a = T) ∨ (a ∈ tk ∧ c ∈ tk ∧ ∀ y ∈ pre, y ∈ tk)
section
variable {sl tk pre rest : List Pl} {W : Pl → Bool} {had : Pl → Option Pl} {p c a x : Pl}
theorem AtJ.start (h : wantF W had tk p = c) : AtJ tk [] c (toF sl W had tk p) c := by
  by_cases e : c ∈ tk
  · exact .inr ⟨e, e, fun y hy => (by cases hy)⟩
  · exact .inl ⟨e, by unfold toF; rw [h, if_neg e]⟩
theorem AtJ.step (h : wantF W had tk p = c) (hj : AtJ tk pre c (toF sl W had tk p) a) (ha : a ∈ tk) (hs : sl = pre ++ x :: rest) : AtJ tk (pre ++ [x]) c (toF sl W had tk p) x := by
  rcases hj with ⟨h1, _⟩ | ⟨_, h2, h3⟩
  · exact absurd ha h1
  · by_cases e : x ∈ tk
    · refine .inr ⟨e, h2, fun y hy => ?_⟩
      rw [List.mem_append, List.mem_singleton] at hy
      rcases hy with hy | hy
      · exact h3 y hy
      · rw [hy]; exact e
    · refine .inl ⟨e, ?_⟩
      unfold toF
      rw [h, if_pos h2, hs, freeL_hit h3 e]
theorem AtJ.hit {T : Pl} (hj : AtJ tk pre c T a) (h : a ∉ tk) : a = T := by
  rcases hj with ⟨_, h2⟩ | ⟨h2, _⟩
  · exact h2
  · exact absurd h2 h
theorem AtJ.full {T : Pl} (hj : AtJ tk pre c T a) (hn : pre.Nodup) (hl : tk.length < pre.length) : a ∉ tk := by
  intro h
  rcases hj with ⟨h2, _⟩ | ⟨_, _, h3⟩
  · exact h2 h
  · obtain ⟨y, hy⟩ := free_there hn hl
    obtain ⟨_, h4, h5⟩ := freeL_some hy
    exact h4 (h3 y h5)
theorem AtJ.keep {T : Pl} {pre' : List Pl} (hj : AtJ tk pre c T a) (h : a ∉ tk) : AtJ tk pre' c T a := .inl ⟨h, hj.hit h⟩
end
/-- The program's choice ahead of the search. -/
theorem want_choice (W : Pl → Bool) (had : Pl → Option Pl) (tk : List Pl) (p v : Pl) (hv : v = (had p).getD ⟨0, 0⟩) : (if ((!(had p).isSome) || (decide (v ∈ tk) || (!decide (v = p) && !W v))) = true then p else v) = wantF W had tk p := by
  unfold wantF
  cases hh : had p with
  | none => simp
  | some o =>
    rw [hh] at hv
    simp only [Option.getD] at hv
    subst hv
    by_cases h1 : v ∈ tk
    · simp [h1]
    · by_cases h2 : W v = true
      · simp [h1, h2]
      · by_cases h3 : v = p
        · simp [h3]
        · simp [h1, h2, h3]
end Go.Proofs.Ytblepaocekojbaa
