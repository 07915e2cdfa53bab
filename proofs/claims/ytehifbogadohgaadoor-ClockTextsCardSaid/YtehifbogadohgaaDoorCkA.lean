/-
  The walks of clock.within, Valid, ValidSpec, floor and step, for every input.
-/
import Derived.Test.YtehifbogadohgaaDoorCkMath
import Derived.Test.YtehifbogadohgaaDoorBar
import Derived.Test.YtehifbogadohgaaDoorQbw
import Derived.Test.YtehifbogadohgaaDoorProg
import Derived.Shelf.Abstract
import Derived.Shelf.RegionOpen
import Derived.WalkKit
import Derived.OwnWalkIn
import Derived.TacticsInMore
import Derived.LoopNIn
import Derived.LoopIn
import Derived.Laws.StructEq
import Derived.Handy
import Derived.Outline
namespace Go.Proofs.YtehifbogadohgaaDoor
open Go.RowKit Go.Shelf

def inB (n lo hi : Int) : Bool := decide (lo ≤ n ∧ n ≤ hi)
theorem inB_iff (n lo hi : Int) : inB n lo hi = true ↔ lo ≤ n ∧ n ≤ hi := by simp [inB]

theorem within_any (n lo hi : Int) (w : World) : Calls Tryd.prog 17 #[.int .i64 n, .int .i64 lo, .int .i64 hi] w fun e w' => e = .returned (.bool (inB n lo hi)) ∧ w = w' := by
  by_cases h1 : lo ≤ n
  · go_enter Tryd.func17, Tryd.ntmps17
    go_wp2
    go_ret
    exact ⟨ret_bool (by simp [inB, *]), rfl⟩
  · have h2 : n < lo := by omega
    clear h1
    go_enter Tryd.func17, Tryd.ntmps17
    go_wp2
    go_ret
    exact ⟨ret_bool (by simp [inB] <;> omega), rfl⟩

theorem Valid_any (t : Int) (w : World) : Calls Tryd.prog 20 #[.int .i64 t] w fun e w' => e = .returned (.bool (vtime t)) ∧ w = w' := by
  go_enter Tryd.func20, Tryd.ntmps20
  go_wp2_with (go_at_call 17; refine (within_any _ _ _ _).mono ?_; rintro e w' ⟨rfl, rfl⟩)
  go_ret
  exact ⟨ret_bool rfl, rfl⟩

theorem eqSpec (a b c d e a' b' c' d' e' : Int) (w : World) : (binOp .eql 23 (.agg #[.int .i64 a, .int .i64 b, .int .i64 c, .int .i64 d, .int .i64 e]) (.agg #[.int .i64 a', .int .i64 b', .int .i64 c', .int .i64 d', .int .i64 e'])).run Tryd.prog w = .ok (.bool (decide (a = a' ∧ b = b' ∧ c = c' ∧ d = d' ∧ e = e'))) w := by
  have u3 := Tryd.underlying3
  have a3 := Tryd.isAgg3
  have z3 := Tryd.sizeOf3
  have hS : Tryd.prog.underlying 23 = some (.struct (Tryd.prog.fieldsOf 23)) := by kernel_rfl
  have hp : Tryd.prog.stoodInHeld 23 = false := by kernel_rfl
  rw [run_eql_struct, show (10000 : Nat) = 9999 + 1 from rfl, run_equalIn_agg w 9999 23 _ _ hS hp]
  simp only [Program.fieldsOf, Tryd.underlying23]
  go_simp
  by_cases h1 : a = a' <;> by_cases h2 : b = b' <;> by_cases h3 : c = c' <;> by_cases h4 : d = d' <;> by_cases h5 : e = e' <;> simp [h1, h2, h3, h4, h5]

theorem tdiv_facts (a b : Int) (hb : 1 ≤ b) (ha : a < 0) : (a.tmod b < 0 → a.tdiv b - 1 = a / b) ∧ (0 ≤ a.tmod b → a.tdiv b = a / b) ∧ a ≤ a.tdiv b ∧ a.tdiv b ≤ 0 ∧ a ≤ a.tmod b := by
  obtain ⟨n, rfl⟩ : ∃ n, a = -n := ⟨-a, by omega⟩
  have hn : 0 < n := by omega
  have h1 : (-n).tdiv b = -(n / b) := by rw [Int.neg_tdiv, Int.tdiv_eq_ediv_of_nonneg (by omega)]
  have h2 : (-n).tmod b = -(n % b) := by rw [Int.neg_tmod, Int.tmod_eq_emod_of_nonneg (by omega)]
  have e := Int.mul_ediv_add_emod n b
  have m0 := Int.emod_nonneg n (show b ≠ 0 by omega)
  have m1 := Int.emod_lt_of_pos n (show 0 < b by omega)
  have q0 : 0 ≤ n / b := Int.ediv_nonneg (by omega) (by omega)
  have q1 : n / b ≤ n := Int.ediv_le_self _ (by omega)
  rw [h1, h2]
  refine ⟨fun h => ?_, fun h => ?_, by omega, by omega, ?_⟩
  · have u : b - n % b + b * (-(n / b) - 1) = -n := by rw [Int.mul_sub, Int.mul_neg]; omega
    exact ((Int.ediv_emod_unique (show 0 < b by omega)).2 ⟨u, by omega, by omega⟩).1.symm
  · have u : 0 + b * (-(n / b)) = -n := by rw [Int.mul_neg]; omega
    exact ((Int.ediv_emod_unique (show 0 < b by omega)).2 ⟨u, by omega, by omega⟩).1.symm
  · have : 0 ≤ b * (n / b) := Int.mul_nonneg (by omega) q0
    omega

theorem floor_any (a b : Int) (hb : 1 ≤ b) (h1 : -4000000000000000 ≤ a) (h2 : a ≤ 4000000000000000) (w : World) : Calls Tryd.prog 36 #[.int .i64 a, .int .i64 b] w fun e w' => e = .returned (.int .i64 (a / b)) ∧ w = w' := by
  by_cases h0 : 0 ≤ a
  · have m0 := Int.emod_nonneg a (show b ≠ 0 by omega)
    have q0 : 0 ≤ a / b := Int.ediv_nonneg (by omega) (by omega)
    have q1 : a / b ≤ a := Int.ediv_le_self _ (by omega)
    have m1 : a % b ≤ a := by
      have e := Int.mul_ediv_add_emod a b
      have : 0 ≤ b * (a / b) := Int.mul_nonneg (by omega) q0
      omega
    go_enter Tryd.func36, Tryd.ntmps36
    go_wp2
    go_ret
    exact ⟨rfl, rfl⟩
  · obtain ⟨f1, f2, f3, f4, f5⟩ := tdiv_facts a b hb (by omega)
    have F1 := hide f1
    have F2 := hide f2
    clear f1 f2
    by_cases hm : a.tmod b < 0
    · go_enter Tryd.func36, Tryd.ntmps36
      go_wp2
      go_ret
      exact ⟨ret_int (F1.out hm), rfl⟩
    · have hm' : 0 ≤ a.tmod b := by omega
      clear hm
      go_enter Tryd.func36, Tryd.ntmps36
      go_wp2
      go_ret
      exact ⟨ret_int (F2.out hm'), rfl⟩

theorem step_any (k z p g h : Int) (w : World) : Calls Tryd.prog 35 #[.agg #[.int .i64 k, .int .i64 z, .int .i64 p, .int .i64 g, .int .i64 h]] w fun e w' => e = .returned (.int .i64 (stepOf k z p)) ∧ w' = w.alloc (.cells #[.int .i64 k, .int .i64 z, .int .i64 p, .int .i64 g, .int .i64 h] 23) := by
  by_cases hk : k = 1
  · subst hk
    go_enter Tryd.func35, Tryd.ntmps35
    go_wp2
    go_ret
    exact ⟨ret_int (by simp [stepOf]), rfl⟩
  · have hk' : (k == 1) = false := by simpa using hk
    go_enter Tryd.func35, Tryd.ntmps35
    go_wp2
    go_ret
    exact ⟨ret_int (by simp [stepOf, hk]), rfl⟩
end Go.Proofs.YtehifbogadohgaaDoor
