/-
  The walks of tidewrightref12's In, numbers and Moves, for every input.
-/
import Derived.Test.YthngjbhamgmcgaaDoorShB
import Derived.Test.YthngjbhamgmcgaaDoorSameInts
namespace Go.Proofs.YthngjbhamgmcgaaDoor
open Go.RowKit

theorem In_any (a m : Int) (w : World) : Calls Tryd.prog 27 #[.int .i64 a, .int .i64 m] w fun e w' => e = .returned (.bool (decide (1 ≤ a ∧ a ≤ m))) ∧ w = w' := by
  by_cases h1 : 1 ≤ a
  · go_enter Tryd.func27, Tryd.ntmps27
    go_wp2
    go_ret
    exact ⟨ret_bool (by simp [*]), rfl⟩
  · go_enter Tryd.func27, Tryd.ntmps27
    go_wp2
    go_ret
    exact ⟨ret_bool (by simp [*] <;> omega), rfl⟩

theorem numbers_any (p g : Int) (w : World) : Calls Tryd.prog 24 #[.int .i64 p, .int .i64 g] w fun e w' => e = .returned (.bool (rightB p g)) ∧ w = w' := by
  by_cases h1 : 1 ≤ p ∧ p ≤ 16
  · have hd : decide (1 ≤ p ∧ p ≤ 16) = true := by simp [h1]
    go_enter Tryd.func24, Tryd.ntmps24
    go_wp2_with (go_at_call 27; refine (In_any _ _ _).mono ?_; rintro e w' ⟨rfl, rfl⟩)
    go_ret
    exact ⟨ret_bool (by simp [rightB, h1]), rfl⟩
  · have hd : decide (1 ≤ p ∧ p ≤ 16) = false := by simp [h1]
    go_enter Tryd.func24, Tryd.ntmps24
    go_wp2_with (go_at_call 27; refine (In_any _ _ _).mono ?_; rintro e w' ⟨rfl, rfl⟩)
    go_ret
    exact ⟨ret_bool (by simp [rightB]; omega), rfl⟩

end Go.Proofs.YthngjbhamgmcgaaDoor
