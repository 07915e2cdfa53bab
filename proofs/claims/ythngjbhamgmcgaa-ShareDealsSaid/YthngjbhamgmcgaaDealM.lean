/-
  What Deal and Union compute, in plain lists.
-/
import Derived.Test.YthngjbhamgmcgaaLists
import Derived.Test.YthngjbhamgmcgaaGrid
namespace Go.Proofs.Ythngjbhamgmcgaa
open Go.RowKit Go.Shelf

/-- All elements of lists, one behind the other. -/
def flat (R : List RowT) : List ByteArray := (R.map RowT.xs).flatten
theorem flat_snoc (R : List RowT) (r : RowT) : flat (R ++ [r]) = flat R ++ r.xs := by simp [flat]
theorem flat_nil : flat [] = [] := rfl
/-- What part p gets of elements that are dealt round to P parts. -/
def dealS (P : Nat) (xs : List ByteArray) (p : Nat) : List ByteArray := (List.range xs.length).filterMap fun i => if i % P = p then xs[i]? else none
theorem fm_congr {α β : Type} {f g : α → Option β} (l : List α) (h : ∀ a ∈ l, f a = g a) : l.filterMap f = l.filterMap g := by
  induction l with
  | nil => rfl
  | cons a l ih =>
    rw [List.filterMap_cons, List.filterMap_cons, h a (List.mem_cons_self ..), ih fun b hb => h b (List.mem_cons_of_mem _ hb)]
theorem dealS_nil (P p : Nat) : dealS P [] p = [] := rfl
theorem dealS_snoc (P : Nat) (xs : List ByteArray) (x : ByteArray) (p : Nat) : dealS P (xs ++ [x]) p = if p = xs.length % P then dealS P xs p ++ [x] else dealS P xs p := by
  unfold dealS
  rw [List.length_append, List.length_cons, List.length_nil, Nat.zero_add, List.range_succ, List.filterMap_append]
  have h1 : (List.range xs.length).filterMap (fun i => if i % P = p then (xs ++ [x])[i]? else none) = (List.range xs.length).filterMap (fun i => if i % P = p then xs[i]? else none) := by
    apply fm_congr
    intro i hi
    rw [List.getElem?_append_left (by simpa using hi)]
  rw [h1]
  by_cases h : p = xs.length % P
  · subst h
    simp
  · rw [if_neg h]
    have h' : ¬ xs.length % P = p := fun e => h e.symm
    simp [h']
/-- How many elements part p gets of n. -/
def dealN (P n p : Nat) : Nat := (n + P - 1 - p) / P
theorem dealS_len (P : Nat) (hP : 0 < P) (p : Nat) (hp : p < P) (l : List ByteArray) : (dealS P l p).length = dealN P l.length p := by
  suffices h : ∀ n (xs : List ByteArray), xs.length = n → (dealS P xs p).length = dealN P n p from h _ l rfl
  intro n
  induction n with
  | zero =>
    intro xs hx
    obtain rfl : xs = [] := List.eq_nil_of_length_eq_zero hx
    unfold dealN
    rw [dealS_nil, List.length_nil, Nat.zero_add, Nat.div_eq_of_lt (by omega)]
  | succ n ih =>
    intro xs hx
    obtain ⟨ys, y, rfl⟩ : ∃ ys y, xs = ys ++ [y] := ⟨xs.dropLast, xs.getLast (by intro e; subst e; cases hx), (List.dropLast_concat_getLast _).symm⟩
    have hl : ys.length = n := by simpa using hx
    rw [dealS_snoc, hl]
    have hi := ih ys hl
    unfold dealN at hi ⊢
    have hd := Nat.div_add_mod n P
    have hm := Nat.mod_lt n hP
    obtain ⟨q, hq⟩ : ∃ q, n / P = q := ⟨_, rfl⟩
    obtain ⟨r, hr⟩ : ∃ r, n % P = r := ⟨_, rfl⟩
    rw [hq, hr] at hd
    rw [hr] at hm ⊢
    have key : ∀ a, (a < P) → (n + a) / P = q + (if r + a < P then 0 else 1) := by
      intro a ha
      by_cases h : r + a < P
      · rw [if_pos h, show n + a = P * q + (r + a) by omega, Nat.mul_add_div hP, Nat.div_eq_of_lt h]
      · rw [if_neg h, show n + a = P * (q + 1) + (r + a - P) by rw [Nat.mul_add]; omega, Nat.mul_add_div hP, Nat.div_eq_of_lt (by omega)]
    have k0 := key (P - 1 - p) (by omega)
    rw [show n + (P - 1 - p) = n + P - 1 - p by omega] at k0
    rw [k0] at hi
    by_cases hpe : p = P - P
    · have hp0 : p = 0 := by omega
      subst hp0
      have e1 : n + 1 + P - 1 - 0 = n + P := by omega
      rw [e1, Nat.add_div_right _ hP, hq]
      by_cases hc : 0 = r
      · rw [if_pos hc, List.length_append, hi, if_pos (by omega)]; simp
      · rw [if_neg hc, hi, if_neg (by omega)]
    · have k1 := key (P - p) (by omega)
      rw [show n + (P - p) = n + 1 + P - 1 - p by omega] at k1
      rw [k1]
      by_cases hc : p = r
      · rw [if_pos hc, List.length_append, hi, if_pos (by omega), if_neg (by omega)]; simp
      · rw [if_neg hc, hi]
        by_cases h2 : r + (P - 1 - p) < P
        · rw [if_pos h2, if_pos (by omega)]
        · rw [if_neg h2, if_neg (by omega)]
/-- Parts differ by one element at most. -/
theorem dealN_near (P n p : Nat) (hP : 0 < P) (hp : p < P) : dealN P n p ≤ dealN P n 0 ∧ dealN P n 0 ≤ dealN P n p + 1 := by
  unfold dealN
  refine ⟨Nat.div_le_div_right (by omega), ?_⟩
  rw [← Nat.add_div_right _ hP]
  exact Nat.div_le_div_right (by omega)
end Go.Proofs.Ythngjbhamgmcgaa
