/-
  The walks of the program's functions over values: within, ValidValue, kind, cmp.Compare, CompareValues.
-/
import Derived.Test.YtiioiajcoiaalaaGreatDoorBgB
import Derived.Test.YtiioiajcoiaalaaGreatDoorProg
import Derived.WalkKit
import Derived.Deep.QuietTactic
import Derived.BigQuiet
import Derived.Outline
import Derived.Sort.Walk0
import Derived.Laws.Cover1
namespace Go.Proofs.YtiioiajcoiaalaaGreatDoor
open Go.RowKit Go.Proofs
attribute [local go_sem] Oper.semAt_some

def Val.v (v : Val) : Value := .agg #[.int .i64 v.k, .int .i64 v.n, .string v.s]
def encV (v : Val) : List Value := [.int .i64 v.k, .int .i64 v.n, .string v.s]
theorem encV_len (v : Val) : (encV v).length = 3 := rfl
def btw (n lo hi : Int) : Bool := decide (lo ≤ n) && decide (n ≤ hi)
theorem btw_yes {n lo hi : Int} (h1 : lo ≤ n) (h2 : n ≤ hi) : btw n lo hi = true := by simp [btw, h1, h2]
theorem btw_lo {n lo hi : Int} (h1 : n < lo) : btw n lo hi = false := by simp [btw]; omega
theorem btw_hi {n lo hi : Int} (h1 : hi < n) : btw n lo hi = false := by simp [btw]; omega
theorem str_eq0 (x y : ByteArray) : (x.toList == y.toList) = decide (x = y) := by
  rw [ByteArray.toList_eq, ByteArray.toList_eq, Bool.eq_iff_iff, decide_eq_true_eq, beq_iff_eq]
  exact ⟨fun h => Go.WideShapes.bytes_inj h, fun h => by rw [h]⟩

theorem within_any (n lo hi : Int) (w : World) : Calls Tryz.prog 127 #[.int .i64 n, .int .i64 lo, .int .i64 hi] w fun e w' => e = .returned (.bool (btw n lo hi)) ∧ w = w' := by
  by_cases h1 : n < lo
  · rw [btw_lo h1]
    go_enter Tryz.func127, Tryz.ntmps127
    go_wp2
    go_ret
    exact ⟨rfl, rfl⟩
  · rw [show btw n lo hi = decide (n ≤ hi) from by simp [btw, show lo ≤ n by omega]]
    go_enter Tryz.func127, Tryz.ntmps127
    go_wp2
    go_ret
    exact ⟨rfl, rfl⟩
theorem bwithin_any (n lo hi : Int) (w : World) : Calls Tryz.prog 54 #[.int .i64 n, .int .i64 lo, .int .i64 hi] w fun e w' => e = .returned (.bool (btw n lo hi)) ∧ w = w' := by
  by_cases h1 : n < lo
  · rw [btw_lo h1]
    go_enter Tryz.func54, Tryz.ntmps54
    go_wp2
    go_ret
    exact ⟨rfl, rfl⟩
  · rw [show btw n lo hi = decide (n ≤ hi) from by simp [btw, show lo ≤ n by omega]]
    go_enter Tryz.func54, Tryz.ntmps54
    go_wp2
    go_ret
    exact ⟨rfl, rfl⟩
theorem number_any (n : Int) (w : World) : Calls Tryz.prog 56 #[.int .i64 n] w fun e w' => e = .returned (.bool (numB n)) ∧ w = w' := by
  have hn : numB n = (decide (n ≠ 0) && btw n (-1000000) 1000000) := rfl
  by_cases h0 : n = 0
  · subst h0
    go_enter Tryz.func56, Tryz.ntmps56
    go_wp2
    go_ret
    exact ⟨rfl, rfl⟩
  · have n1 : (n != 0) = true := by simpa using h0
    have HN := hide (show numB n = btw n (-1000000) 1000000 from by rw [hn]; simp [h0])
    clear hn h0
    go_enter Tryz.func56, Tryz.ntmps56
    go_wp2_with fail
    refine (bwithin_any n _ _ w).mono ?_
    rintro e w' ⟨rfl, rfl⟩
    rw [← HN.out]
    go_wp2
    go_ret
    exact ⟨rfl, rfl⟩

/-- The zero value's equation. -/
theorem eqVal (a b : Int) (s : ByteArray) (a' b' : Int) (s' : ByteArray) (w : World) : (binOp .eql 64 (.agg #[.int .i64 a, .int .i64 b, .string s]) (.agg #[.int .i64 a', .int .i64 b', .string s'])).run Tryz.prog w = .ok (.bool (decide (a = a' ∧ b = b' ∧ s = s'))) w := by
  have u3 := Tryz.underlying3
  have a3 := Tryz.isAgg3
  have z3 := Tryz.sizeOf3
  have u9 := Tryz.underlying9
  have a9 := Tryz.isAgg9
  have z9 := Tryz.sizeOf9
  have hS : Tryz.prog.underlying 64 = some (.struct (Tryz.prog.fieldsOf 64)) := by kernel_rfl
  have hp : Tryz.prog.stoodInHeld 64 = false := by kernel_rfl
  have hs := str_eq0 s s'
  rw [run_eql_struct, show (10000 : Nat) = 9999 + 1 from rfl, run_equalIn_agg w 9999 64 _ _ hS hp]
  simp only [Program.fieldsOf, Tryz.underlying64]
  go_simp
  by_cases h1 : a = a' <;> by_cases h2 : b = b' <;> by_cases h3 : s = s' <;> simp [h1, h2, h3] at hs ⊢
  all_goals trace_state

theorem isNaNi_any (n : Int) (w : World) : Calls Tryz.prog 191 #[.int .i64 n] w fun e w' => e = .returned (.bool false) ∧ w = w' := by
  have h : (n != n) = false := by simp
  go_enter Tryz.func191, Tryz.ntmps191
  go_wp2
  go_ret
  exact ⟨rfl, rfl⟩
theorem isNaNs_any (s : ByteArray) (w : World) : Calls Tryz.prog 192 #[.string s] w fun e w' => e = .returned (.bool false) ∧ w = w' := by
  have h : (s.toList == s.toList) = true := by simp
  have h2 : (s.toList != s.toList) = false := by simp
  go_enter Tryz.func192, Tryz.ntmps192
  go_wp2
  go_ret
  exact ⟨rfl, rfl⟩
theorem cmpi_any (x y : Int) (w : World) : Calls Tryz.prog 163 #[.int .i64 x, .int .i64 y] w fun e w' => e = .returned (.int .i64 (cmpI x y)) ∧ w = w' := by
  have h : cmpI x y = if x < y then -1 else if y < x then 1 else 0 := rfl
  by_cases h1 : x < y
  · rw [h, if_pos h1]
    go_enter Tryz.func163, Tryz.ntmps163
    go_wp2_with (go_at_call 191; refine (isNaNi_any _ _).mono ?_; rintro e w' ⟨rfl, rfl⟩)
    go_ret
    exact ⟨rfl, rfl⟩
  · by_cases h2 : y < x
    · rw [h, if_neg h1, if_pos h2]
      go_enter Tryz.func163, Tryz.ntmps163
      go_wp2_with (go_at_call 191; refine (isNaNi_any _ _).mono ?_; rintro e w' ⟨rfl, rfl⟩)
      go_ret
      exact ⟨rfl, rfl⟩
    · rw [h, if_neg h1, if_neg h2]
      go_enter Tryz.func163, Tryz.ntmps163
      go_wp2_with (go_at_call 191; refine (isNaNi_any _ _).mono ?_; rintro e w' ⟨rfl, rfl⟩)
      go_ret
      exact ⟨rfl, rfl⟩
theorem less_yes {x y : ByteArray} (h : ltS x y) : Op.bytesLess x.toList y.toList = true := by
  rw [bytesLess_eq, ByteArray.toList_eq, ByteArray.toList_eq]; exact decide_eq_true h
theorem less_no {x y : ByteArray} (h : ¬ ltS x y) : Op.bytesLess x.toList y.toList = false := by
  rw [bytesLess_eq, ByteArray.toList_eq, ByteArray.toList_eq]; exact decide_eq_false h
theorem cmps_any (x y : ByteArray) (w : World) : Calls Tryz.prog 167 #[.string x, .string y] w fun e w' => e = .returned (.int .i64 (cmpS x y)) ∧ w = w' := by
  have h : cmpS x y = if ltS x y then -1 else if ltS y x then 1 else 0 := rfl
  by_cases h1 : ltS x y
  · have n1 := less_yes h1
    rw [h, if_pos h1]
    clear h h1
    go_enter Tryz.func167, Tryz.ntmps167
    go_wp2_with (go_at_call 192; refine (isNaNs_any _ _).mono ?_; rintro e w' ⟨rfl, rfl⟩)
    go_ret
    exact ⟨rfl, rfl⟩
  · have n1 := less_no h1
    by_cases h2 : ltS y x
    · have n3 : (x.toList == y.toList) = false := by rw [str_eq0]; exact decide_eq_false fun e => ltS_irrefl x (by rw [← e] at h2; exact h2)
      rw [h, if_neg h1, if_pos h2]
      clear h h1 h2
      go_enter Tryz.func167, Tryz.ntmps167
      go_wp2_with (go_at_call 192; refine (isNaNs_any _ _).mono ?_; rintro e w' ⟨rfl, rfl⟩)
      go_ret
      exact ⟨rfl, rfl⟩
    · have n3 : (x.toList == y.toList) = true := by rw [str_eq0]; exact decide_eq_true (ltS_eq h1 h2)
      rw [h, if_neg h1, if_neg h2]
      clear h h1 h2
      go_enter Tryz.func167, Tryz.ntmps167
      go_wp2_with (go_at_call 192; refine (isNaNs_any _ _).mono ?_; rintro e w' ⟨rfl, rfl⟩)
      go_ret
      exact ⟨rfl, rfl⟩
end Go.Proofs.YtiioiajcoiaalaaGreatDoor
