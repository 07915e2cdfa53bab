/-
  The walk of tidewrightref01.At, for every valid spec and time, and the law that it gives the windows of the time.
-/
import Derived.Test.YtehifbogadohgaaCkR
namespace Go.Proofs.Ytehifbogadohgaa
open Go.RowKit Go.Shelf

/-- Windows from a beginning backwards. -/
def backFrom (a b z : Int) (n : Nat) : List (Int × Int) := (List.range n).map fun (i : Nat) => (a - (i : Int) * b, a - (i : Int) * b + z)
theorem backFrom_length (a b z : Int) (n : Nat) : (backFrom a b z n).length = n := by simp [backFrom]
theorem backFrom_snoc (a b z : Int) (n : Nat) : backFrom a b z (n + 1) = backFrom a b z n ++ [(a - n * b, a - n * b + z)] := by simp [backFrom, List.range_succ]

theorem first_from {z b h t : Int} (s : Stp z b h) : firstOf b h t = from0 z b h t + ((count (from0 z b h t) b t : Nat) : Int) * b - b := by
  obtain ⟨f1, f2⟩ := from0_bd (t := t) s
  have hb := s.b1
  have hz := s.bz
  have q0 : 0 ≤ (t - from0 z b h t) / b := Int.ediv_nonneg (by omega) (by omega)
  have e0 : t - from0 z b h t = (t - h) + (-((t - z - h) / b + 1)) * b := by unfold from0; rw [Int.neg_mul]; omega
  have e1 : (t - from0 z b h t) / b = (t - h) / b - ((t - z - h) / b + 1) := by rw [e0, Int.add_mul_ediv_right _ _ (by omega)]; omega
  have ec : ((count (from0 z b h t) b t : Nat) : Int) = (t - from0 z b h t) / b + 1 := by unfold count; omega
  rw [ec, e1]
  unfold firstOf from0
  have e2 : ((t - h) / b - ((t - z - h) / b + 1) + 1) * b = (t - h) / b * b - ((t - z - h) / b + 1) * b + b := by
    rw [Int.add_mul, Int.sub_mul]; omega
  rw [e2]
  omega

theorem back_rev (a b z : Int) (n : Nat) : (backFrom (a + n * b - b) b z n).reverse = winsFrom a b z n := by
  apply List.ext_getElem
  · simp [backFrom, winsFrom]
  · intro i h1 h2
    have hi : i < n := by simpa [winsFrom] using h2
    simp only [List.getElem_reverse, backFrom, winsFrom, List.getElem_map, List.getElem_range, List.length_map, List.length_range]
    have e : a + (n : Int) * b - b - ((n - 1 - i : Nat) : Int) * b = a + (i : Int) * b := by
      have h3 : ((n - 1 - i : Nat) : Int) = (n : Int) - 1 - i := by omega
      rw [h3, Int.sub_mul, Int.sub_mul]; omega
    rw [e]

theorem back_more {z b h t : Int} (s : Stp z b h) (m : Nat) (hm : m ≤ count (from0 z b h t) b t) :
    t < firstOf b h t - (m : Int) * b + z ↔ m < count (from0 z b h t) b t := by
  obtain ⟨f1, f2⟩ := from0_bd (t := t) s
  have hb := s.b1
  rw [first_from s]
  generalize count (from0 z b h t) b t = c at *
  have e : ((c - m : Nat) : Int) = (c : Int) - m := by omega
  have e2 : ((c - m : Nat) : Int) * b = (c : Int) * b - (m : Int) * b := by rw [e, Int.sub_mul]
  constructor
  · intro hlt
    rcases Nat.lt_or_ge m c with h1 | h1
    · exact h1
    · have : m = c := by omega
      subst this
      omega
  · intro h1
    have : 1 * b ≤ ((c - m : Nat) : Int) * b := Int.mul_le_mul_of_nonneg_right (by omega) (by omega)
    omega
end Go.Proofs.Ytehifbogadohgaa
