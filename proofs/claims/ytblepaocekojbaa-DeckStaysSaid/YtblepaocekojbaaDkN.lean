/-
  The numbers of regions, in plain lists: how many roots stand below a task's root.
-/
import Derived.Test.YtblepaocekojbaaDkG
namespace Go.Proofs.Ytblepaocekojbaa

/-- How many roots stand below k. -/
def numb (L : Nat → Nat) (k : Nat) : Nat := ((List.range k).filter fun j => decide (L j = j)).length
theorem numb_zero (L : Nat → Nat) : numb L 0 = 0 := rfl
theorem numb_succ (L : Nat → Nat) (k : Nat) : numb L (k + 1) = if L k = k then numb L k + 1 else numb L k := by
  unfold numb
  rw [List.range_succ, List.filter_append, List.length_append]
  by_cases h : L k = k
  · rw [if_pos h]; simp [h]
  · rw [if_neg h]; simp [h]
theorem numb_le (L : Nat → Nat) (k : Nat) : numb L k ≤ k := by
  unfold numb
  exact Nat.le_trans (List.length_filter_le _ _) (by simp)
/-- The regions' numbers of n tasks. -/
def nums (L : Nat → Nat) (n : Nat) : List Int := (List.range n).map fun i => ((numb L (L i) : Nat) : Int)
theorem nums_len (L : Nat → Nat) (n : Nat) : (nums L n).length = n := by simp [nums]
theorem nums_succ (L : Nat → Nat) (n : Nat) : nums L (n + 1) = nums L n ++ [((numb L (L n) : Nat) : Int)] := by simp [nums, List.range_succ]
/-- What the map of numbers holds behind k tasks. -/
def hasN (L : Nat → Nat) (k r : Nat) : Bool := decide (r < k) && decide (L r = r)
theorem hasN_root {L : Nat → Nat} (hL : Lab L) (k : Nat) : hasN L k (L k) = !decide (L k = k) := by
  unfold hasN
  rw [hL.idem k]
  have := hL.le k
  by_cases h : L k = k
  · simp [h]
  · simp [h]; omega
theorem hasN_succ (L : Nat → Nat) (k r : Nat) : hasN L (k + 1) r = (hasN L k r || (decide (r = k) && decide (L k = k))) := by
  unfold hasN
  by_cases h : r = k
  · subst h; simp
  · have : decide (r < k + 1) = decide (r < k) := by rw [decide_eq_decide]; omega
    simp [this, h]
end Go.Proofs.Ytblepaocekojbaa
