/-
  The walk of bag.Times, for every bag and number.
-/
import Derived.Test.YtiioiajcoiaalaaGreatDoorBgE
import Derived.Test.YtiioiajcoiaalaaGreatDoorBgS6
namespace Go.Proofs.YtiioiajcoiaalaaGreatDoor
open Go.RowKit
attribute [local go_sem] Oper.semAt_some

theorem mul_bound {m n : Int} (h1 : -1000000 ≤ m ∧ m ≤ 1000000) (h2 : -1000000 ≤ n ∧ n ≤ 1000000) : -1000000000000 ≤ m * n ∧ m * n ≤ 1000000000000 := by
  have ha : (m * n).natAbs ≤ 1000000 * 1000000 := by
    rw [Int.natAbs_mul]
    exact Nat.mul_le_mul (by omega) (by omega)
  omega
/-- What Times tells. -/
def timesB (b : Bg) (n : Int) : Bg × Int := if okBag b then (if btw n (-1000000) 1000000 then comb (fun m _ => m * n) b [] else ([], 7)) else ([], 1)
end Go.Proofs.YtiioiajcoiaalaaGreatDoor
