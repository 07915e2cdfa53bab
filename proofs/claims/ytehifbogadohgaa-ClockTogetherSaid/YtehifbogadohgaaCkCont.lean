/-
  The walks of ValidWindow and Contains, of clock and of its reference, for every input.
-/
import Derived.Test.YtehifbogadohgaaCkCmp
import Derived.Test.YtehifbogadohgaaCkRV
namespace Go.Proofs.Ytehifbogadohgaa
open Go.RowKit Go.Shelf

set_option maxHeartbeats 1000000 in
theorem ValidWindow_any (a b : Int) (w : World) : Calls Try.prog 22 #[.agg #[.int .i64 a, .int .i64 b]] w (RetV w (.bool (vwin a b))) := by
  by_cases c1 : decide (a < b) = true
  · by_cases c2 : inB a (-2000000000000) 2000000000000 = true
    · by_cases c3 : inB b (-2000000000000) 2000000000000 = true
      · go_enter Try.func22, Try.ntmps22
        go_wp2_with (go_at_call 47; refine (within_any _ _ _ _).mono ?_; rintro e w' ⟨rfl, rfl⟩)
        go_ret
        exact ⟨ret_bool (by rw [vwin_eq]; simp [*]), by go_grown⟩
      · have c3' : inB b (-2000000000000) 2000000000000 = false := by simpa using c3
        clear c3
        go_enter Try.func22, Try.ntmps22
        go_wp2_with (go_at_call 47; refine (within_any _ _ _ _).mono ?_; rintro e w' ⟨rfl, rfl⟩)
        go_ret
        exact ⟨ret_bool (by rw [vwin_eq]; simp [*]), by go_grown⟩
    · have c2' : inB a (-2000000000000) 2000000000000 = false := by simpa using c2
      clear c2
      go_enter Try.func22, Try.ntmps22
      go_wp2_with (go_at_call 47; refine (within_any _ _ _ _).mono ?_; rintro e w' ⟨rfl, rfl⟩)
      go_ret
      exact ⟨ret_bool (by rw [vwin_eq]; simp [*]), by go_grown⟩
  · have c1' : decide (a < b) = false := by simpa using c1
    clear c1
    go_enter Try.func22, Try.ntmps22
    go_wp2_with (go_at_call 47; refine (within_any _ _ _ _).mono ?_; rintro e w' ⟨rfl, rfl⟩)
    go_ret
    exact ⟨ret_bool (by rw [vwin_eq]; simp [*]), by go_grown⟩

set_option maxHeartbeats 1000000 in
theorem Contains_any (a b t : Int) (w : World) : Calls Try.prog 18 #[.agg #[.int .i64 a, .int .i64 b], .int .i64 t] w (RetV w (.bool (cont a b t))) := by
  by_cases c1 : vwin a b = true
  · have hw : a < b ∧ -2000000000000 ≤ a ∧ a ≤ 2000000000000 ∧ -2000000000000 ≤ b ∧ b ≤ 2000000000000 := by simpa [vwin] using c1
    obtain ⟨hw1, hw2, hw3, hw4, hw5⟩ := hw
    by_cases c2 : vtime t = true
    · have bs := Blk.new w 35 #[.int .i64 a, .int .i64 b]
      go_enter Try.func18, Try.ntmps18
      go_wp2_with fail
      refine (ValidWindow_any _ _ _).mono ?_
      rintro e w1 ⟨rfl, hB1⟩
      have bs1 := bs.below hB1 (by simp)
      have e0 := bs1.cell 0
      have e1 := bs1.cell 1
      simp at e0 e1
      clear bs bs1
      go_wp2_with (first | (go_at_call 20; refine (Valid_any _ _).mono ?_; rintro e w' ⟨rfl, rfl⟩) | (go_at_call 47; refine (within_any _ _ _ _).mono ?_; rintro e w' ⟨rfl, rfl⟩))
      go_ret
      exact ⟨ret_bool (by unfold cont; simp [*]), bstep ((Below.refl _ _).alloc (Nat.le_refl _) _) hB1⟩
    · have c2' : vtime t = false := by simpa using c2
      clear c2
      have bs := Blk.new w 35 #[.int .i64 a, .int .i64 b]
      go_enter Try.func18, Try.ntmps18
      go_wp2_with fail
      refine (ValidWindow_any _ _ _).mono ?_
      rintro e w1 ⟨rfl, hB1⟩
      have bs1 := bs.below hB1 (by simp)
      have e0 := bs1.cell 0
      have e1 := bs1.cell 1
      simp at e0 e1
      clear bs bs1
      go_wp2_with (first | (go_at_call 20; refine (Valid_any _ _).mono ?_; rintro e w' ⟨rfl, rfl⟩) | (go_at_call 47; refine (within_any _ _ _ _).mono ?_; rintro e w' ⟨rfl, rfl⟩))
      go_ret
      exact ⟨ret_bool (by unfold cont; simp [*]), bstep ((Below.refl _ _).alloc (Nat.le_refl _) _) hB1⟩
  · have c1' : vwin a b = false := by simpa using c1
    clear c1
    have bs := Blk.new w 35 #[.int .i64 a, .int .i64 b]
    go_enter Try.func18, Try.ntmps18
    go_wp2_with fail
    refine (ValidWindow_any _ _ _).mono ?_
    rintro e w1 ⟨rfl, hB1⟩
    have bs1 := bs.below hB1 (by simp)
    have e0 := bs1.cell 0
    have e1 := bs1.cell 1
    simp at e0 e1
    clear bs bs1
    go_wp2_with (first | (go_at_call 20; refine (Valid_any _ _).mono ?_; rintro e w' ⟨rfl, rfl⟩) | (go_at_call 47; refine (within_any _ _ _ _).mono ?_; rintro e w' ⟨rfl, rfl⟩))
    go_ret
    exact ⟨ret_bool (by unfold cont; simp [*]), bstep ((Below.refl _ _).alloc (Nat.le_refl _) _) hB1⟩

set_option maxHeartbeats 1000000 in
theorem RValidWindow_any (a b : Int) (w : World) : Calls Try.prog 23 #[.agg #[.int .i64 a, .int .i64 b]] w (RetV w (.bool (vwin a b))) := by
  by_cases c1 : decide (a < b) = true
  · by_cases c2 : inB a (-2000000000000) 2000000000000 = true
    · by_cases c3 : inB b (-2000000000000) 2000000000000 = true
      · go_enter Try.func23, Try.ntmps23
        go_wp2_with (go_at_call 50; refine (Within_any _ _ _ _).mono ?_; rintro e w' ⟨rfl, rfl⟩)
        go_ret
        exact ⟨ret_bool (by rw [vwin_eq]; simp [*]), by go_grown⟩
      · have c3' : inB b (-2000000000000) 2000000000000 = false := by simpa using c3
        clear c3
        go_enter Try.func23, Try.ntmps23
        go_wp2_with (go_at_call 50; refine (Within_any _ _ _ _).mono ?_; rintro e w' ⟨rfl, rfl⟩)
        go_ret
        exact ⟨ret_bool (by rw [vwin_eq]; simp [*]), by go_grown⟩
    · have c2' : inB a (-2000000000000) 2000000000000 = false := by simpa using c2
      clear c2
      go_enter Try.func23, Try.ntmps23
      go_wp2_with (go_at_call 50; refine (Within_any _ _ _ _).mono ?_; rintro e w' ⟨rfl, rfl⟩)
      go_ret
      exact ⟨ret_bool (by rw [vwin_eq]; simp [*]), by go_grown⟩
  · have c1' : decide (a < b) = false := by simpa using c1
    clear c1
    go_enter Try.func23, Try.ntmps23
    go_wp2_with (go_at_call 50; refine (Within_any _ _ _ _).mono ?_; rintro e w' ⟨rfl, rfl⟩)
    go_ret
    exact ⟨ret_bool (by rw [vwin_eq]; simp [*]), by go_grown⟩

set_option maxHeartbeats 1000000 in
theorem RContains_any (a b t : Int) (w : World) : Calls Try.prog 26 #[.agg #[.int .i64 a, .int .i64 b], .int .i64 t] w (RetV w (.bool (cont a b t))) := by
  by_cases c1 : vwin a b = true
  · have hw : a < b ∧ -2000000000000 ≤ a ∧ a ≤ 2000000000000 ∧ -2000000000000 ≤ b ∧ b ≤ 2000000000000 := by simpa [vwin] using c1
    obtain ⟨hw1, hw2, hw3, hw4, hw5⟩ := hw
    by_cases c2 : vtime t = true
    · have bs := Blk.new w 35 #[.int .i64 a, .int .i64 b]
      go_enter Try.func26, Try.ntmps26
      go_wp2_with fail
      refine (RValidWindow_any _ _ _).mono ?_
      rintro e w1 ⟨rfl, hB1⟩
      have bs1 := bs.below hB1 (by simp)
      have e0 := bs1.cell 0
      have e1 := bs1.cell 1
      simp at e0 e1
      clear bs bs1
      go_wp2_with (first | (go_at_call 21; refine (RValid_any _ _).mono ?_; rintro e w' ⟨rfl, rfl⟩) | (go_at_call 50; refine (Within_any _ _ _ _).mono ?_; rintro e w' ⟨rfl, rfl⟩))
      go_ret
      exact ⟨ret_bool (by unfold cont; simp [*]), bstep ((Below.refl _ _).alloc (Nat.le_refl _) _) hB1⟩
    · have c2' : vtime t = false := by simpa using c2
      clear c2
      have bs := Blk.new w 35 #[.int .i64 a, .int .i64 b]
      go_enter Try.func26, Try.ntmps26
      go_wp2_with fail
      refine (RValidWindow_any _ _ _).mono ?_
      rintro e w1 ⟨rfl, hB1⟩
      have bs1 := bs.below hB1 (by simp)
      have e0 := bs1.cell 0
      have e1 := bs1.cell 1
      simp at e0 e1
      clear bs bs1
      go_wp2_with (first | (go_at_call 21; refine (RValid_any _ _).mono ?_; rintro e w' ⟨rfl, rfl⟩) | (go_at_call 50; refine (Within_any _ _ _ _).mono ?_; rintro e w' ⟨rfl, rfl⟩))
      go_ret
      exact ⟨ret_bool (by unfold cont; simp [*]), bstep ((Below.refl _ _).alloc (Nat.le_refl _) _) hB1⟩
  · have c1' : vwin a b = false := by simpa using c1
    clear c1
    have bs := Blk.new w 35 #[.int .i64 a, .int .i64 b]
    go_enter Try.func26, Try.ntmps26
    go_wp2_with fail
    refine (RValidWindow_any _ _ _).mono ?_
    rintro e w1 ⟨rfl, hB1⟩
    have bs1 := bs.below hB1 (by simp)
    have e0 := bs1.cell 0
    have e1 := bs1.cell 1
    simp at e0 e1
    clear bs bs1
    go_wp2_with (first | (go_at_call 21; refine (RValid_any _ _).mono ?_; rintro e w' ⟨rfl, rfl⟩) | (go_at_call 50; refine (Within_any _ _ _ _).mono ?_; rintro e w' ⟨rfl, rfl⟩))
    go_ret
    exact ⟨ret_bool (by unfold cont; simp [*]), bstep ((Below.refl _ _).alloc (Nat.le_refl _) _) hB1⟩
end Go.Proofs.Ytehifbogadohgaa
