/-
  The walks of tidewrightref01's Within, Valid and ValidSpec, for every input.
-/
import Derived.Test.YtehifbogadohgaaDoorCkV
import Derived.RegionTactic
namespace Go.Proofs.YtehifbogadohgaaDoor
open Go.RowKit Go.Shelf

theorem Within_any (n lo hi : Int) (w : World) : Calls Tryd.prog 27 #[.int .i64 n, .int .i64 lo, .int .i64 hi] w fun e w' => e = .returned (.bool (inB n lo hi)) ∧ w = w' := by
  by_cases h1 : lo ≤ n
  · go_enter Tryd.func27, Tryd.ntmps27
    go_wp2
    go_ret
    exact ⟨ret_bool (by simp [inB, *]), rfl⟩
  · have h2 : n < lo := by omega
    clear h1
    go_enter Tryd.func27, Tryd.ntmps27
    go_wp2
    go_ret
    exact ⟨ret_bool (by simp [inB] <;> omega), rfl⟩

theorem rvs1 (z p g h : Int) : vspec 1 z p g h = (decide (p = 0 ∧ g = 0) && (inB z 1 1000000000 && inB h 0 (z - 1))) := by
  unfold vspec inB; rw [Bool.eq_iff_iff]; simp; omega
theorem rvs2 (z p g h : Int) : vspec 2 z p g h = (decide (g = 0) && (inB z 1 1000000000 && (inB p 1 z && (decide (z ≤ 50 * p) && inB h 0 (p - 1))))) := by
  unfold vspec inB; rw [Bool.eq_iff_iff]; simp; omega
theorem rvs3 (z p g h : Int) : vspec 3 z p g h = (decide (z = 0 ∧ p = 0 ∧ h = 0) && inB g 1 1000000000) := by
  unfold vspec inB; rw [Bool.eq_iff_iff]; simp; omega
theorem rvs4 (z p g h : Int) : vspec 4 z p g h = decide (z = 0 ∧ p = 0 ∧ g = 0 ∧ h = 0) := by
  unfold vspec; rw [Bool.eq_iff_iff]; simp
theorem rvs5 (k z p g h : Int) (h1 : (k == 1) = false) (h2 : (k == 2) = false) (h3 : (k == 3) = false) (h4 : (k == 4) = false) : vspec k z p g h = false := by
  have a1 : k ≠ 1 := by simpa using h1
  have a2 : k ≠ 2 := by simpa using h2
  have a3 : k ≠ 3 := by simpa using h3
  have a4 : k ≠ 4 := by simpa using h4
  unfold vspec; simp; omega

set_option maxRecDepth 100000 in
set_option maxHeartbeats 4000000 in
theorem RValidSpec_1 (z p g h : Int) (w : World) : Calls Tryd.prog 14 #[.agg #[.int .i64 1, .int .i64 z, .int .i64 p, .int .i64 g, .int .i64 h]] w (RetV w (.bool (vspec 1 z p g h))) := by
  by_cases c0 : decide (p = 0 ∧ g = 0) = true
  · by_cases c1 : inB z 1 1000000000 = true
    · have hz := (inB_iff _ _ _).1 c1
      obtain ⟨hz1, hz2⟩ := hz
      by_cases c2 : inB h 0 (z - 1) = true
      · have he := eqSpec
        have hm : Tryd.prog.eqGuardType Tryd.prog.depth 23 = false := by kernel_rfl
        go_enter Tryd.func14, Tryd.ntmps14
        go_wp2_with fail
        go_region
        all_goals (go_wp2_with (go_at_call 27; refine (Within_any _ _ _ _).mono ?_; rintro e w' ⟨rfl, rfl⟩))
        all_goals (go_ret; exact ⟨ret_bool (by rw [rvs1]; simp [*]), by go_grown⟩)
      · have c2' : inB h 0 (z - 1) = false := by simpa using c2
        clear c2
        have he := eqSpec
        have hm : Tryd.prog.eqGuardType Tryd.prog.depth 23 = false := by kernel_rfl
        go_enter Tryd.func14, Tryd.ntmps14
        go_wp2_with fail
        go_region
        all_goals (go_wp2_with (go_at_call 27; refine (Within_any _ _ _ _).mono ?_; rintro e w' ⟨rfl, rfl⟩))
        all_goals (go_ret; exact ⟨ret_bool (by rw [rvs1]; simp [*]), by go_grown⟩)
    · have c1' : inB z 1 1000000000 = false := by simpa using c1
      clear c1
      have he := eqSpec
      have hm : Tryd.prog.eqGuardType Tryd.prog.depth 23 = false := by kernel_rfl
      go_enter Tryd.func14, Tryd.ntmps14
      go_wp2_with fail
      go_region
      all_goals (go_wp2_with (go_at_call 27; refine (Within_any _ _ _ _).mono ?_; rintro e w' ⟨rfl, rfl⟩))
      all_goals (go_ret; exact ⟨ret_bool (by rw [rvs1]; simp [*]), by go_grown⟩)
  · have c0' : decide (p = 0 ∧ g = 0) = false := by simpa using c0
    clear c0
    have he := eqSpec
    have hm : Tryd.prog.eqGuardType Tryd.prog.depth 23 = false := by kernel_rfl
    go_enter Tryd.func14, Tryd.ntmps14
    go_wp2_with fail
    go_region
    all_goals (go_wp2_with (go_at_call 27; refine (Within_any _ _ _ _).mono ?_; rintro e w' ⟨rfl, rfl⟩))
    all_goals (go_ret; exact ⟨ret_bool (by rw [rvs1]; simp [*]), by go_grown⟩)

set_option maxRecDepth 100000 in
set_option maxHeartbeats 4000000 in
theorem RValidSpec_2 (z p g h : Int) (w : World) : Calls Tryd.prog 14 #[.agg #[.int .i64 2, .int .i64 z, .int .i64 p, .int .i64 g, .int .i64 h]] w (RetV w (.bool (vspec 2 z p g h))) := by
  by_cases c0 : decide (g = 0) = true
  · by_cases c1 : inB z 1 1000000000 = true
    · have hz := (inB_iff _ _ _).1 c1
      obtain ⟨hz1, hz2⟩ := hz
      by_cases c2 : inB p 1 z = true
      · have hp := (inB_iff _ _ _).1 c2
        obtain ⟨hp1, hp2⟩ := hp
        by_cases c3 : decide (z ≤ 50 * p) = true
        · by_cases c4 : inB h 0 (p - 1) = true
          · have he := eqSpec
            have hm : Tryd.prog.eqGuardType Tryd.prog.depth 23 = false := by kernel_rfl
            go_enter Tryd.func14, Tryd.ntmps14
            go_wp2_with fail
            go_region
            all_goals (go_wp2_with (go_at_call 27; refine (Within_any _ _ _ _).mono ?_; rintro e w' ⟨rfl, rfl⟩))
            all_goals (go_ret; exact ⟨ret_bool (by rw [rvs2]; simp [*]), by go_grown⟩)
          · have c4' : inB h 0 (p - 1) = false := by simpa using c4
            clear c4
            have he := eqSpec
            have hm : Tryd.prog.eqGuardType Tryd.prog.depth 23 = false := by kernel_rfl
            go_enter Tryd.func14, Tryd.ntmps14
            go_wp2_with fail
            go_region
            all_goals (go_wp2_with (go_at_call 27; refine (Within_any _ _ _ _).mono ?_; rintro e w' ⟨rfl, rfl⟩))
            all_goals (go_ret; exact ⟨ret_bool (by rw [rvs2]; simp [*]), by go_grown⟩)
        · have c3' : decide (z ≤ 50 * p) = false := by simpa using c3
          clear c3
          have he := eqSpec
          have hm : Tryd.prog.eqGuardType Tryd.prog.depth 23 = false := by kernel_rfl
          go_enter Tryd.func14, Tryd.ntmps14
          go_wp2_with fail
          go_region
          all_goals (go_wp2_with (go_at_call 27; refine (Within_any _ _ _ _).mono ?_; rintro e w' ⟨rfl, rfl⟩))
          all_goals (go_ret; exact ⟨ret_bool (by rw [rvs2]; simp [*]), by go_grown⟩)
      · have c2' : inB p 1 z = false := by simpa using c2
        clear c2
        have he := eqSpec
        have hm : Tryd.prog.eqGuardType Tryd.prog.depth 23 = false := by kernel_rfl
        go_enter Tryd.func14, Tryd.ntmps14
        go_wp2_with fail
        go_region
        all_goals (go_wp2_with (go_at_call 27; refine (Within_any _ _ _ _).mono ?_; rintro e w' ⟨rfl, rfl⟩))
        all_goals (go_ret; exact ⟨ret_bool (by rw [rvs2]; simp [*]), by go_grown⟩)
    · have c1' : inB z 1 1000000000 = false := by simpa using c1
      clear c1
      have he := eqSpec
      have hm : Tryd.prog.eqGuardType Tryd.prog.depth 23 = false := by kernel_rfl
      go_enter Tryd.func14, Tryd.ntmps14
      go_wp2_with fail
      go_region
      all_goals (go_wp2_with (go_at_call 27; refine (Within_any _ _ _ _).mono ?_; rintro e w' ⟨rfl, rfl⟩))
      all_goals (go_ret; exact ⟨ret_bool (by rw [rvs2]; simp [*]), by go_grown⟩)
  · have c0' : decide (g = 0) = false := by simpa using c0
    clear c0
    have he := eqSpec
    have hm : Tryd.prog.eqGuardType Tryd.prog.depth 23 = false := by kernel_rfl
    go_enter Tryd.func14, Tryd.ntmps14
    go_wp2_with fail
    go_region
    all_goals (go_wp2_with (go_at_call 27; refine (Within_any _ _ _ _).mono ?_; rintro e w' ⟨rfl, rfl⟩))
    all_goals (go_ret; exact ⟨ret_bool (by rw [rvs2]; simp [*]), by go_grown⟩)

set_option maxRecDepth 100000 in
set_option maxHeartbeats 4000000 in
theorem RValidSpec_3 (z p g h : Int) (w : World) : Calls Tryd.prog 14 #[.agg #[.int .i64 3, .int .i64 z, .int .i64 p, .int .i64 g, .int .i64 h]] w (RetV w (.bool (vspec 3 z p g h))) := by
  by_cases c0 : decide (z = 0 ∧ p = 0 ∧ h = 0) = true
  · by_cases c1 : inB g 1 1000000000 = true
    · have he := eqSpec
      have hm : Tryd.prog.eqGuardType Tryd.prog.depth 23 = false := by kernel_rfl
      go_enter Tryd.func14, Tryd.ntmps14
      go_wp2_with (go_at_call 27; refine (Within_any _ _ _ _).mono ?_; rintro e w' ⟨rfl, rfl⟩)
      go_ret
      exact ⟨ret_bool (by rw [rvs3]; simp [*]), by go_grown⟩
    · have c1' : inB g 1 1000000000 = false := by simpa using c1
      clear c1
      have he := eqSpec
      have hm : Tryd.prog.eqGuardType Tryd.prog.depth 23 = false := by kernel_rfl
      go_enter Tryd.func14, Tryd.ntmps14
      go_wp2_with (go_at_call 27; refine (Within_any _ _ _ _).mono ?_; rintro e w' ⟨rfl, rfl⟩)
      go_ret
      exact ⟨ret_bool (by rw [rvs3]; simp [*]), by go_grown⟩
  · have c0' : decide (z = 0 ∧ p = 0 ∧ h = 0) = false := by simpa using c0
    clear c0
    have he := eqSpec
    have hm : Tryd.prog.eqGuardType Tryd.prog.depth 23 = false := by kernel_rfl
    go_enter Tryd.func14, Tryd.ntmps14
    go_wp2_with (go_at_call 27; refine (Within_any _ _ _ _).mono ?_; rintro e w' ⟨rfl, rfl⟩)
    go_ret
    exact ⟨ret_bool (by rw [rvs3]; simp [*]), by go_grown⟩

set_option maxRecDepth 100000 in
set_option maxHeartbeats 4000000 in
theorem RValidSpec_4 (z p g h : Int) (w : World) : Calls Tryd.prog 14 #[.agg #[.int .i64 4, .int .i64 z, .int .i64 p, .int .i64 g, .int .i64 h]] w (RetV w (.bool (vspec 4 z p g h))) := by
  have he := eqSpec
  have hm : Tryd.prog.eqGuardType Tryd.prog.depth 23 = false := by kernel_rfl
  go_enter Tryd.func14, Tryd.ntmps14
  go_wp2_with (go_at_call 27; refine (Within_any _ _ _ _).mono ?_; rintro e w' ⟨rfl, rfl⟩)
  go_ret
  exact ⟨ret_bool (by rw [rvs4]; simp [*]), by go_grown⟩

set_option maxRecDepth 100000 in
set_option maxHeartbeats 4000000 in
theorem RValidSpec_5 (k z p g h : Int) (h1 : (k == 1) = false) (h2 : (k == 2) = false) (h3 : (k == 3) = false) (h4 : (k == 4) = false) (w : World) : Calls Tryd.prog 14 #[.agg #[.int .i64 k, .int .i64 z, .int .i64 p, .int .i64 g, .int .i64 h]] w (RetV w (.bool (vspec k z p g h))) := by
  have H1 := hide h1
  have H2 := hide h2
  have H3 := hide h3
  have H4 := hide h4
  have he := eqSpec
  have hm : Tryd.prog.eqGuardType Tryd.prog.depth 23 = false := by kernel_rfl
  go_enter Tryd.func14, Tryd.ntmps14
  go_wp2_with (go_at_call 27; refine (Within_any _ _ _ _).mono ?_; rintro e w' ⟨rfl, rfl⟩)
  go_ret
  exact ⟨ret_bool (by rw [rvs5 _ _ _ _ _ H1.out H2.out H3.out H4.out]), by go_grown⟩

theorem RValidSpec_any (k z p g h : Int) (w : World) : Calls Tryd.prog 14 #[.agg #[.int .i64 k, .int .i64 z, .int .i64 p, .int .i64 g, .int .i64 h]] w (RetV w (.bool (vspec k z p g h))) := by
  by_cases h1 : k = 1
  · subst h1; exact RValidSpec_1 z p g h w
  by_cases h2 : k = 2
  · subst h2; exact RValidSpec_2 z p g h w
  by_cases h3 : k = 3
  · subst h3; exact RValidSpec_3 z p g h w
  by_cases h4 : k = 4
  · subst h4; exact RValidSpec_4 z p g h w
  exact RValidSpec_5 k z p g h (by simpa using h1) (by simpa using h2) (by simpa using h3) (by simpa using h4) w
end Go.Proofs.YtehifbogadohgaaDoor
