/-
  The reference's SortedEntries: an insertion sort of a row of the call's own.
-/
import Derived.Test.YthngjbhamgmcgaaEnT
import Derived.Test.YthngjbhamgmcgaaApp
namespace Go.Proofs.Ythngjbhamgmcgaa
open Go.RowKit
attribute [local go_sem] Oper.semAt_some
set_option linter.unusedVariables false

theorem own_cell {w : World} {base : Nat} {e : TypeId} {size g c n j : Nat} {xs : List Value} {u : Value} (h : w.ownsRow base e size (.slice (some ⟨g, 0, none⟩) n c) n xs) (hu : xs[j]? = some u) : w.cell? ⟨g, j, none⟩ = some u := by
  have hn : 0 < n := by
    rcases Nat.eq_zero_or_pos n with h0 | h0
    · have := h.1
      subst h0
      have h1 := (List.getElem?_eq_some_iff.1 hu).1
      omega
    · exact h0
  obtain ⟨b, off, e, hb, hc⟩ := (Reads.of_own h).2 hn
  injection e with e
  injection e with e1 e2
  subst e1 e2
  have := hc j u hu
  rwa [Nat.zero_add] at this
theorem some_at {xs : List Value} {j : Nat} (h : j < xs.length) : ∃ u, xs[j]? = some u := ⟨_, List.getElem?_eq_getElem h⟩
theorem own_at {w : World} {base : Nat} {e : TypeId} {size g c n j : Nat} {xs : List Value} (h : w.ownsRow base e size (.slice (some ⟨g, 0, none⟩) n c) n xs) (hj : j < n * size) : ∃ u, w.cell? ⟨g, j, none⟩ = some u := by
  obtain ⟨u, hu⟩ := some_at (xs := xs) (j := j) (by rw [h.1]; exact hj)
  exact ⟨u, own_cell h hu⟩
/-- Two entries of a row of the call's own stored, cell by cell. -/
structure St8 (X : World) (base g c n i j : Nat) (l : List En) (a b : En) : Prop where
  c0 : ∃ u, X.cell? ⟨g, i * 4, none⟩ = some u
  f0 : X.frozen? ⟨g, i * 4, none⟩ = false
  c1 : ∃ u, (X.setCell ⟨g, i * 4, none⟩ (.int .i64 a.g)).cell? ⟨g, i * 4 + 1, none⟩ = some u
  f1 : (X.setCell ⟨g, i * 4, none⟩ (.int .i64 a.g)).frozen? ⟨g, i * 4 + 1, none⟩ = false
  c2 : ∃ u, ((X.setCell ⟨g, i * 4, none⟩ (.int .i64 a.g)).setCell ⟨g, i * 4 + 1, none⟩ (.string a.nm)).cell? ⟨g, i * 4 + 2, none⟩ = some u
  f2 : ((X.setCell ⟨g, i * 4, none⟩ (.int .i64 a.g)).setCell ⟨g, i * 4 + 1, none⟩ (.string a.nm)).frozen? ⟨g, i * 4 + 2, none⟩ = false
  c3 : ∃ u, (((X.setCell ⟨g, i * 4, none⟩ (.int .i64 a.g)).setCell ⟨g, i * 4 + 1, none⟩ (.string a.nm)).setCell ⟨g, i * 4 + 2, none⟩ (.string a.ky)).cell? ⟨g, i * 4 + 3, none⟩ = some u
  f3 : (((X.setCell ⟨g, i * 4, none⟩ (.int .i64 a.g)).setCell ⟨g, i * 4 + 1, none⟩ (.string a.nm)).setCell ⟨g, i * 4 + 2, none⟩ (.string a.ky)).frozen? ⟨g, i * 4 + 3, none⟩ = false
  c4 : ∃ u, ((((X.setCell ⟨g, i * 4, none⟩ (.int .i64 a.g)).setCell ⟨g, i * 4 + 1, none⟩ (.string a.nm)).setCell ⟨g, i * 4 + 2, none⟩ (.string a.ky)).setCell ⟨g, i * 4 + 3, none⟩ (.string a.vl)).cell? ⟨g, j * 4, none⟩ = some u
  f4 : ((((X.setCell ⟨g, i * 4, none⟩ (.int .i64 a.g)).setCell ⟨g, i * 4 + 1, none⟩ (.string a.nm)).setCell ⟨g, i * 4 + 2, none⟩ (.string a.ky)).setCell ⟨g, i * 4 + 3, none⟩ (.string a.vl)).frozen? ⟨g, j * 4, none⟩ = false
  c5 : ∃ u, (((((X.setCell ⟨g, i * 4, none⟩ (.int .i64 a.g)).setCell ⟨g, i * 4 + 1, none⟩ (.string a.nm)).setCell ⟨g, i * 4 + 2, none⟩ (.string a.ky)).setCell ⟨g, i * 4 + 3, none⟩ (.string a.vl)).setCell ⟨g, j * 4, none⟩ (.int .i64 b.g)).cell? ⟨g, j * 4 + 1, none⟩ = some u
  f5 : (((((X.setCell ⟨g, i * 4, none⟩ (.int .i64 a.g)).setCell ⟨g, i * 4 + 1, none⟩ (.string a.nm)).setCell ⟨g, i * 4 + 2, none⟩ (.string a.ky)).setCell ⟨g, i * 4 + 3, none⟩ (.string a.vl)).setCell ⟨g, j * 4, none⟩ (.int .i64 b.g)).frozen? ⟨g, j * 4 + 1, none⟩ = false
  c6 : ∃ u, ((((((X.setCell ⟨g, i * 4, none⟩ (.int .i64 a.g)).setCell ⟨g, i * 4 + 1, none⟩ (.string a.nm)).setCell ⟨g, i * 4 + 2, none⟩ (.string a.ky)).setCell ⟨g, i * 4 + 3, none⟩ (.string a.vl)).setCell ⟨g, j * 4, none⟩ (.int .i64 b.g)).setCell ⟨g, j * 4 + 1, none⟩ (.string b.nm)).cell? ⟨g, j * 4 + 2, none⟩ = some u
  f6 : ((((((X.setCell ⟨g, i * 4, none⟩ (.int .i64 a.g)).setCell ⟨g, i * 4 + 1, none⟩ (.string a.nm)).setCell ⟨g, i * 4 + 2, none⟩ (.string a.ky)).setCell ⟨g, i * 4 + 3, none⟩ (.string a.vl)).setCell ⟨g, j * 4, none⟩ (.int .i64 b.g)).setCell ⟨g, j * 4 + 1, none⟩ (.string b.nm)).frozen? ⟨g, j * 4 + 2, none⟩ = false
  c7 : ∃ u, (((((((X.setCell ⟨g, i * 4, none⟩ (.int .i64 a.g)).setCell ⟨g, i * 4 + 1, none⟩ (.string a.nm)).setCell ⟨g, i * 4 + 2, none⟩ (.string a.ky)).setCell ⟨g, i * 4 + 3, none⟩ (.string a.vl)).setCell ⟨g, j * 4, none⟩ (.int .i64 b.g)).setCell ⟨g, j * 4 + 1, none⟩ (.string b.nm)).setCell ⟨g, j * 4 + 2, none⟩ (.string b.ky)).cell? ⟨g, j * 4 + 3, none⟩ = some u
  f7 : (((((((X.setCell ⟨g, i * 4, none⟩ (.int .i64 a.g)).setCell ⟨g, i * 4 + 1, none⟩ (.string a.nm)).setCell ⟨g, i * 4 + 2, none⟩ (.string a.ky)).setCell ⟨g, i * 4 + 3, none⟩ (.string a.vl)).setCell ⟨g, j * 4, none⟩ (.int .i64 b.g)).setCell ⟨g, j * 4 + 1, none⟩ (.string b.nm)).setCell ⟨g, j * 4 + 2, none⟩ (.string b.ky)).frozen? ⟨g, j * 4 + 3, none⟩ = false
  own : ((((((((X.setCell ⟨g, i * 4, none⟩ (.int .i64 a.g)).setCell ⟨g, i * 4 + 1, none⟩ (.string a.nm)).setCell ⟨g, i * 4 + 2, none⟩ (.string a.ky)).setCell ⟨g, i * 4 + 3, none⟩ (.string a.vl)).setCell ⟨g, j * 4, none⟩ (.int .i64 b.g)).setCell ⟨g, j * 4 + 1, none⟩ (.string b.nm)).setCell ⟨g, j * 4 + 2, none⟩ (.string b.ky)).setCell ⟨g, j * 4 + 3, none⟩ (.string b.vl)).ownsRow base 57 4 (.slice (some ⟨g, 0, none⟩) n c) n (flatE ((l.set i a).set j b))
theorem St8.of {X : World} {base g c n i j : Nat} {l : List En} {a b : En} (h : X.ownsRow base 57 4 (.slice (some ⟨g, 0, none⟩) n c) n (flatE l)) (hi : i < n) (hj : j < n) : St8 X base g c n i j l a b := by
  have hl := h.1
  have e0 := own_at (j := i * 4) h (by omega)
  have s1 := own_store (j := i * 4) h (by omega) (.int .i64 a.g)
  have e1 := own_at (j := i * 4 + 1) s1 (by omega)
  have s2 := own_store (j := i * 4 + 1) s1 (by omega) (.string a.nm)
  have e2 := own_at (j := i * 4 + 2) s2 (by omega)
  have s3 := own_store (j := i * 4 + 2) s2 (by omega) (.string a.ky)
  have e3 := own_at (j := i * 4 + 3) s3 (by omega)
  have s4 := own_store (j := i * 4 + 3) s3 (by omega) (.string a.vl)
  rw [flatE_setw] at s4
  have e4 := own_at (j := j * 4) s4 (by omega)
  have s5 := own_store (j := j * 4) s4 (by omega) (.int .i64 b.g)
  have e5 := own_at (j := j * 4 + 1) s5 (by omega)
  have s6 := own_store (j := j * 4 + 1) s5 (by omega) (.string b.nm)
  have e6 := own_at (j := j * 4 + 2) s6 (by omega)
  have s7 := own_store (j := j * 4 + 2) s6 (by omega) (.string b.ky)
  have e7 := own_at (j := j * 4 + 3) s7 (by omega)
  have s8 := own_store (j := j * 4 + 3) s7 (by omega) (.string b.vl)
  rw [flatE_setw] at s8
  exact ⟨e0, h.frozenAt _, e1, s1.frozenAt _, e2, s2.frozenAt _, e3, s3.frozenAt _, e4, s4.frozenAt _, e5, s5.frozenAt _, e6, s6.frozenAt _, e7, s7.frozenAt _, s8⟩

/-- The state of one insertion: x stands at place j, all else up to i is in order. -/
def InsE (lr : List En) (j i : Nat) : Prop := ∃ P x Q R, lr = P ++ x :: Q ++ R ∧ P.length = j ∧ P.length + Q.length = i ∧ SrtE (P ++ Q) ∧ ∀ y ∈ Q, cmE x y ≤ 0
theorem InsE.start {lr : List En} {i : Nat} (h : SrtE (lr.take i)) (hi : i < lr.length) : InsE lr i i := by
  refine ⟨lr.take i, lr[i], [], lr.drop (i + 1), ?_, by rw [List.length_take]; omega, by rw [List.length_take]; simp; omega, by rw [List.append_nil]; exact h, by simp⟩
  rw [List.append_assoc]
  show lr = lr.take i ++ (lr[i] :: lr.drop (i + 1))
  rw [← List.drop_eq_getElem_cons hi, List.take_append_drop]
theorem InsE.zero {lr : List En} {i : Nat} (h : InsE lr 0 i) : SrtE (lr.take (i + 1)) := by
  obtain ⟨P, x, Q, R, rfl, h1, h2, h3, h4⟩ := h
  obtain rfl : P = [] := List.length_eq_zero_iff.1 h1
  have e : ([] ++ x :: Q ++ R).take (i + 1) = x :: Q := by
    show (x :: (Q ++ R)).take (i + 1) = _
    rw [List.take_succ_cons, List.take_append_of_le_length (by simp at h2; omega), List.take_of_length_le (by simp at h2; omega)]
  rw [e]
  exact List.pairwise_cons.2 ⟨h4, h3⟩
theorem InsE.stop {lr : List En} {j i : Nat} {p x : En} (h : InsE lr (j + 1) i) (hp : lr[j]? = some p) (hx : lr[j + 1]? = some x) (hc : cmE p x ≤ 0) : SrtE (lr.take (i + 1)) := by
  obtain ⟨P, x', Q, R, rfl, h1, h2, h3, h4⟩ := h
  have ex : x' = x := by
    rw [List.append_assoc, List.getElem?_append_right (by omega), h1, Nat.sub_self] at hx
    simpa using hx
  subst ex
  rw [List.append_assoc, List.getElem?_append_left (by omega)] at hp
  have e : (P ++ x' :: Q ++ R).take (i + 1) = P ++ x' :: Q := by
    rw [List.take_append_of_le_length (by simp; omega), List.take_of_length_le (by simp; omega)]
  rw [e]
  obtain ⟨hP, hQ, hPQ⟩ := List.pairwise_append.1 h3
  have hall : ∀ y ∈ P, cmE y x' ≤ 0 := fun y hy => by
    obtain ⟨q, hq⟩ := List.mem_iff_getElem?.1 hy
    by_cases e : q = j
    · subst e; rw [hp] at hq; injection hq with hq; rw [← hq]; exact hc
    · obtain ⟨hq', rfl⟩ := List.getElem?_eq_some_iff.1 hq
      obtain ⟨hj', rfl⟩ := List.getElem?_eq_some_iff.1 hp
      exact Tot.en.le _ _ _ (List.pairwise_iff_getElem.1 hP q j hq' hj' (by omega)) hc
  exact List.pairwise_append.2 ⟨hP, List.pairwise_cons.2 ⟨h4, hQ⟩, fun y hy z hz => by
    rcases List.mem_cons.1 hz with rfl | hz
    · exact hall y hy
    · exact hPQ y hy z hz⟩
theorem InsE.go {lr : List En} {j i : Nat} {p x : En} (h : InsE lr (j + 1) i) (hp : lr[j]? = some p) (hx : lr[j + 1]? = some x) (hc : ¬ cmE p x ≤ 0) : InsE ((lr.set j x).set (j + 1) p) j i := by
  obtain ⟨P, x', Q, R, rfl, h1, h2, h3, h4⟩ := h
  have ex : x' = x := by
    rw [List.append_assoc, List.getElem?_append_right (by omega), h1, Nat.sub_self] at hx
    simpa using hx
  subst ex
  rw [List.append_assoc, List.getElem?_append_left (by omega)] at hp
  obtain ⟨P3, p', rfl⟩ : ∃ P3 p', P = P3 ++ [p'] := by
    rcases List.eq_nil_or_concat P with h | ⟨P3, q, h⟩
    · subst h; simp at h1
    · exact ⟨P3, q, by simpa using h⟩
  have hl3 : P3.length = j := by simpa using h1
  have ep : p' = p := by
    rw [List.getElem?_append_right (by omega), hl3, Nat.sub_self] at hp
    simpa using hp
  subst ep
  have e : ((P3 ++ [p'] ++ x' :: Q ++ R).set j x').set (j + 1) p' = P3 ++ x' :: (p' :: Q) ++ R := by
    rw [show P3 ++ [p'] ++ x' :: Q ++ R = P3 ++ (p' :: x' :: (Q ++ R)) by simp, List.set_append_right _ _ (by omega), hl3, Nat.sub_self, List.set_cons_zero, List.set_append_right _ _ (by omega), hl3, show j + 1 - j = 0 + 1 by omega, List.set_cons_succ, List.set_cons_zero]
    simp
  rw [e]
  have a := Tot.en.anti p' x'
  refine ⟨P3, x', p' :: Q, R, rfl, hl3, by simp at h2 ⊢; omega, by simpa using h3, fun y hy => ?_⟩
  rcases List.mem_cons.1 hy with rfl | hy
  · omega
  · exact h4 y hy
end Go.Proofs.Ythngjbhamgmcgaa
