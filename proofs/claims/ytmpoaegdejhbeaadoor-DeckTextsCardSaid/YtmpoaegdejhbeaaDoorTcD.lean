/-
  The reference's Number in plain data, digit by digit. No program in sight; no condition.
-/
import Derived.Test.YtmpoaegdejhbeaaDoorTcP
namespace Go.Proofs.YtmpoaegdejhbeaaDoor
set_option linter.unusedVariables false
set_option linter.unusedSimpArgs false

theorem dgs_lt : ∀ (l : List UInt8), (∀ c ∈ l, isDg c = true) → dgs 0 l < 10 ^ l.length := by
  intro l
  induction hl : l.length generalizing l with
  | zero => intro _; obtain rfl := List.length_eq_zero_iff.1 hl; decide
  | succ m ih =>
    intro h
    obtain ⟨k, c, rfl⟩ : ∃ k c, l = k ++ [c] := by
      refine ⟨l.dropLast, l.getLast (by intro e; rw [e] at hl; cases hl), (List.dropLast_concat_getLast _).symm⟩
    have h1 := ih k (by rw [List.length_append] at hl; simpa using hl) fun d hd => h d (List.mem_append_left _ hd)
    have h2 := h c (List.mem_append_right _ (by simp))
    unfold isDg at h2
    rw [Bool.and_eq_true, decide_eq_true_eq, decide_eq_true_eq] at h2
    rw [dgs_snoc, Nat.pow_succ]
    unfold dgV
    omega
/-- Where the digits begin. -/
def frN (l : List UInt8) : Nat := if l.head? = some 45 then 1 else 0
theorem tail_at (l : List UInt8) (j : Nat) : (tailN l)[j]? = l[frN l + j]? := by
  unfold tailN frN
  split
  · rw [List.getElem?_tail, Nat.add_comm]
  · rw [Nat.zero_add]
theorem tail_len (l : List UInt8) : (tailN l).length + frN l = l.length := by
  unfold tailN frN
  split
  · rename_i h
    cases l with
    | nil => cases h
    | cons c l => simp
  · rfl
/-- Behind j digits. -/
structure NumI (l : List UInt8) (j : Nat) (n : Int) : Prop where
  le : j ≤ (tailN l).length
  le18 : j ≤ 18
  dg : ∀ c ∈ (tailN l).take j, isDg c = true
  n : n = (dgs 0 ((tailN l).take j) : Nat)
section
variable {l : List UInt8} {j : Nat} {n : Int}
theorem NumI.zero (l : List UInt8) : NumI l 0 0 := ⟨Nat.zero_le _, Nat.zero_le _, (by intro c hc; cases hc), rfl⟩
theorem NumI.bound (h : NumI l j n) : 0 ≤ n ∧ n < 1000000000000000000 := by
  have h1 := dgs_lt _ h.dg
  have h2 : ((tailN l).take j).length ≤ 18 := by rw [List.length_take]; have := h.le18; omega
  have h3 : 10 ^ ((tailN l).take j).length ≤ 10 ^ 18 := Nat.pow_le_pow_right (by omega) h2
  have h4 : (10 : Nat) ^ 18 = 1000000000000000000 := by decide
  rw [h.n]
  omega
theorem NumI.bound2 (h : NumI l j n) (h18 : j < 18) : 0 ≤ n ∧ n < 100000000000000000 := by
  have h1 := dgs_lt _ h.dg
  have h2 : ((tailN l).take j).length ≤ 17 := by rw [List.length_take]; omega
  have h3 : 10 ^ ((tailN l).take j).length ≤ 10 ^ 17 := Nat.pow_le_pow_right (by omega) h2
  have h4 : (10 : Nat) ^ 17 = 100000000000000000 := by decide
  rw [h.n]
  omega
theorem NumI.step (h : NumI l j n) {c : UInt8} (hc : l[frN l + j]? = some c) (hd : isDg c = true) (h18 : j < 18) : NumI l (j + 1) (10 * n + ((c.toNat : Int) - 48)) := by
  have ht := (tail_at l j).trans hc
  have hlt := (List.getElem?_eq_some_iff.1 ht).1
  have e : (tailN l).take (j + 1) = (tailN l).take j ++ [c] := by rw [List.take_add_one, ht]; rfl
  unfold isDg at hd
  have hd' := hd
  rw [Bool.and_eq_true, decide_eq_true_eq, decide_eq_true_eq] at hd'
  refine ⟨by omega, by omega, fun d hd2 => ?_, ?_⟩
  · rw [e] at hd2
    rcases List.mem_append.1 hd2 with hd2 | hd2
    · exact h.dg d hd2
    · obtain rfl : d = c := by simpa using hd2
      exact hd
  · rw [e, dgs_snoc, h.n]
    unfold dgV
    omega
theorem num_bad {c : UInt8} (hc : l[frN l + j]? = some c) (hd : isDg c = false) : numV l = 0 := by
  have ht := (tail_at l j).trans hc
  unfold numV
  rw [if_neg]
  rw [Bool.and_eq_true, List.all_eq_true]
  intro h
  have := h.1 c (List.mem_of_getElem? ht)
  rw [hd] at this
  cases this
theorem NumI.far (h : NumI l j n) {c : UInt8} (hc : l[frN l + j]? = some c) (h18 : 18 ≤ j) : numV l = 0 := by
  have ht := (tail_at l j).trans hc
  have hlt := (List.getElem?_eq_some_iff.1 ht).1
  unfold numV
  rw [if_neg]
  rw [Bool.and_eq_true, decide_eq_true_eq]
  intro h2
  omega
theorem NumI.fin (h : NumI l j n) (hj : frN l + j = l.length) : numV l = if frN l = 1 then -n else n := by
  have hl := tail_len l
  have e : (tailN l).take j = tailN l := List.take_of_length_le (by omega)
  have h1 := h.dg
  have h2 := h.n
  rw [e] at h1 h2
  unfold numV
  rw [if_pos (by rw [Bool.and_eq_true, List.all_eq_true, decide_eq_true_eq]; exact ⟨h1, by have := h.le18; omega⟩), h2]
  unfold frN
  by_cases hh : l.head? = some 45
  · rw [if_pos hh, if_pos hh, if_pos rfl]
  · rw [if_neg hh, if_neg hh, if_neg (by omega)]
end
end Go.Proofs.YtmpoaegdejhbeaaDoor
