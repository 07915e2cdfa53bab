/-
  The walk of clock.ValidSpec, for every spec.
-/
import Derived.Test.YtehifbogadohgaaDoorCkA
namespace Go.Proofs.YtehifbogadohgaaDoor
open Go.RowKit Go.Shelf

theorem vs1 (z p g h : Int) : vspec 1 z p g h = (inB z 1 1000000000 && (inB h 0 (z - 1) && ((p == 0) && (g == 0)))) := by
  unfold vspec inB; rw [Bool.eq_iff_iff]; simp; omega
theorem vs2 (z p g h : Int) : vspec 2 z p g h = (inB z 1 1000000000 && (inB p 1 z && (decide (z ≤ 50 * p) && (inB h 0 (p - 1) && (g == 0))))) := by
  unfold vspec inB; rw [Bool.eq_iff_iff]; simp; omega
theorem vs3 (z p g h : Int) : vspec 3 z p g h = (inB g 1 1000000000 && decide (z = 0 ∧ p = 0 ∧ h = 0)) := by
  unfold vspec inB; rw [Bool.eq_iff_iff]; simp; omega
theorem vs4 (k z p g h : Int) (h1 : (k == 1) = false) (h2 : (k == 2) = false) (h3 : (k == 3) = false) : vspec k z p g h = decide (k = 4 ∧ z = 0 ∧ p = 0 ∧ g = 0 ∧ h = 0) := by
  have a1 : k ≠ 1 := by simpa using h1
  have a2 : k ≠ 2 := by simpa using h2
  have a3 : k ≠ 3 := by simpa using h3
  unfold vspec; rw [Bool.eq_iff_iff]; simp; omega

set_option maxHeartbeats 1000000 in
theorem ValidSpec_1 (z p g h : Int) (w : World) : Calls Tryd.prog 8 #[.agg #[.int .i64 1, .int .i64 z, .int .i64 p, .int .i64 g, .int .i64 h]] w (RetV w (.bool (vspec 1 z p g h))) := by
  by_cases c1 : inB z 1 1000000000 = true
  · have hz := (inB_iff _ _ _).1 c1
    obtain ⟨hz1, hz2⟩ := hz
    by_cases c2 : inB h 0 (z - 1) = true
    · by_cases c3 : (p == 0) = true
      · by_cases c4 : (g == 0) = true
        · go_enter Tryd.func8, Tryd.ntmps8
          go_wp2_with (go_at_call 17; refine (within_any _ _ _ _).mono ?_; rintro e w' ⟨rfl, rfl⟩)
          go_ret
          exact ⟨ret_bool (by rw [vs1]; simp [*]), by go_grown⟩
        · have c4' : (g == 0) = false := by simpa using c4
          clear c4
          go_enter Tryd.func8, Tryd.ntmps8
          go_wp2_with (go_at_call 17; refine (within_any _ _ _ _).mono ?_; rintro e w' ⟨rfl, rfl⟩)
          go_ret
          exact ⟨ret_bool (by rw [vs1]; simp [*]), by go_grown⟩
      · have c3' : (p == 0) = false := by simpa using c3
        clear c3
        go_enter Tryd.func8, Tryd.ntmps8
        go_wp2_with (go_at_call 17; refine (within_any _ _ _ _).mono ?_; rintro e w' ⟨rfl, rfl⟩)
        go_ret
        exact ⟨ret_bool (by rw [vs1]; simp [*]), by go_grown⟩
    · have c2' : inB h 0 (z - 1) = false := by simpa using c2
      clear c2
      go_enter Tryd.func8, Tryd.ntmps8
      go_wp2_with (go_at_call 17; refine (within_any _ _ _ _).mono ?_; rintro e w' ⟨rfl, rfl⟩)
      go_ret
      exact ⟨ret_bool (by rw [vs1]; simp [*]), by go_grown⟩
  · have c1' : inB z 1 1000000000 = false := by simpa using c1
    clear c1
    go_enter Tryd.func8, Tryd.ntmps8
    go_wp2_with (go_at_call 17; refine (within_any _ _ _ _).mono ?_; rintro e w' ⟨rfl, rfl⟩)
    go_ret
    exact ⟨ret_bool (by rw [vs1]; simp [*]), by go_grown⟩

set_option maxHeartbeats 1000000 in
theorem ValidSpec_2 (z p g h : Int) (w : World) : Calls Tryd.prog 8 #[.agg #[.int .i64 2, .int .i64 z, .int .i64 p, .int .i64 g, .int .i64 h]] w (RetV w (.bool (vspec 2 z p g h))) := by
  by_cases c1 : inB z 1 1000000000 = true
  · have hz := (inB_iff _ _ _).1 c1
    obtain ⟨hz1, hz2⟩ := hz
    by_cases c2 : inB p 1 z = true
    · have hp := (inB_iff _ _ _).1 c2
      obtain ⟨hp1, hp2⟩ := hp
      by_cases c3 : decide (z ≤ 50 * p) = true
      · by_cases c4 : inB h 0 (p - 1) = true
        · by_cases c5 : (g == 0) = true
          · go_enter Tryd.func8, Tryd.ntmps8
            go_wp2_with (go_at_call 17; refine (within_any _ _ _ _).mono ?_; rintro e w' ⟨rfl, rfl⟩)
            go_ret
            exact ⟨ret_bool (by rw [vs2]; simp [*]), by go_grown⟩
          · have c5' : (g == 0) = false := by simpa using c5
            clear c5
            go_enter Tryd.func8, Tryd.ntmps8
            go_wp2_with (go_at_call 17; refine (within_any _ _ _ _).mono ?_; rintro e w' ⟨rfl, rfl⟩)
            go_ret
            exact ⟨ret_bool (by rw [vs2]; simp [*]), by go_grown⟩
        · have c4' : inB h 0 (p - 1) = false := by simpa using c4
          clear c4
          go_enter Tryd.func8, Tryd.ntmps8
          go_wp2_with (go_at_call 17; refine (within_any _ _ _ _).mono ?_; rintro e w' ⟨rfl, rfl⟩)
          go_ret
          exact ⟨ret_bool (by rw [vs2]; simp [*]), by go_grown⟩
      · have c3' : decide (z ≤ 50 * p) = false := by simpa using c3
        clear c3
        go_enter Tryd.func8, Tryd.ntmps8
        go_wp2_with (go_at_call 17; refine (within_any _ _ _ _).mono ?_; rintro e w' ⟨rfl, rfl⟩)
        go_ret
        exact ⟨ret_bool (by rw [vs2]; simp [*]), by go_grown⟩
    · have c2' : inB p 1 z = false := by simpa using c2
      clear c2
      go_enter Tryd.func8, Tryd.ntmps8
      go_wp2_with (go_at_call 17; refine (within_any _ _ _ _).mono ?_; rintro e w' ⟨rfl, rfl⟩)
      go_ret
      exact ⟨ret_bool (by rw [vs2]; simp [*]), by go_grown⟩
  · have c1' : inB z 1 1000000000 = false := by simpa using c1
    clear c1
    go_enter Tryd.func8, Tryd.ntmps8
    go_wp2_with (go_at_call 17; refine (within_any _ _ _ _).mono ?_; rintro e w' ⟨rfl, rfl⟩)
    go_ret
    exact ⟨ret_bool (by rw [vs2]; simp [*]), by go_grown⟩

set_option maxHeartbeats 1000000 in
theorem ValidSpec_3 (z p g h : Int) (w : World) : Calls Tryd.prog 8 #[.agg #[.int .i64 3, .int .i64 z, .int .i64 p, .int .i64 g, .int .i64 h]] w (RetV w (.bool (vspec 3 z p g h))) := by
  by_cases c1 : inB g 1 1000000000 = true
  · by_cases c2 : decide (z = 0 ∧ p = 0 ∧ h = 0) = true
    · have he := eqSpec
      have hm : Tryd.prog.eqGuardType Tryd.prog.depth 23 = false := by kernel_rfl
      go_enter Tryd.func8, Tryd.ntmps8
      go_wp2_with (go_at_call 17; refine (within_any _ _ _ _).mono ?_; rintro e w' ⟨rfl, rfl⟩)
      go_ret
      exact ⟨ret_bool (by rw [vs3]; simp [*]), by go_grown⟩
    · have c2' : decide (z = 0 ∧ p = 0 ∧ h = 0) = false := by simpa using c2
      clear c2
      have he := eqSpec
      have hm : Tryd.prog.eqGuardType Tryd.prog.depth 23 = false := by kernel_rfl
      go_enter Tryd.func8, Tryd.ntmps8
      go_wp2_with (go_at_call 17; refine (within_any _ _ _ _).mono ?_; rintro e w' ⟨rfl, rfl⟩)
      go_ret
      exact ⟨ret_bool (by rw [vs3]; simp [*]), by go_grown⟩
  · have c1' : inB g 1 1000000000 = false := by simpa using c1
    clear c1
    have he := eqSpec
    have hm : Tryd.prog.eqGuardType Tryd.prog.depth 23 = false := by kernel_rfl
    go_enter Tryd.func8, Tryd.ntmps8
    go_wp2_with (go_at_call 17; refine (within_any _ _ _ _).mono ?_; rintro e w' ⟨rfl, rfl⟩)
    go_ret
    exact ⟨ret_bool (by rw [vs3]; simp [*]), by go_grown⟩

set_option maxHeartbeats 1000000 in
theorem ValidSpec_4 (k z p g h : Int) (h1 : (k == 1) = false) (h2 : (k == 2) = false) (h3 : (k == 3) = false) (w : World) : Calls Tryd.prog 8 #[.agg #[.int .i64 k, .int .i64 z, .int .i64 p, .int .i64 g, .int .i64 h]] w (RetV w (.bool (vspec k z p g h))) := by
  have H1 := hide h1
  have H2 := hide h2
  have H3 := hide h3
  have he := eqSpec
  have hm : Tryd.prog.eqGuardType Tryd.prog.depth 23 = false := by kernel_rfl
  go_enter Tryd.func8, Tryd.ntmps8
  go_wp2_with (go_at_call 17; refine (within_any _ _ _ _).mono ?_; rintro e w' ⟨rfl, rfl⟩)
  go_ret
  exact ⟨ret_bool (by rw [vs4 _ _ _ _ _ H1.out H2.out H3.out]; simp [*]), by go_grown⟩

theorem ValidSpec_any (k z p g h : Int) (w : World) : Calls Tryd.prog 8 #[.agg #[.int .i64 k, .int .i64 z, .int .i64 p, .int .i64 g, .int .i64 h]] w (RetV w (.bool (vspec k z p g h))) := by
  by_cases h1 : k = 1
  · subst h1; exact ValidSpec_1 z p g h w
  by_cases h2 : k = 2
  · subst h2; exact ValidSpec_2 z p g h w
  by_cases h3 : k = 3
  · subst h3; exact ValidSpec_3 z p g h w
  exact ValidSpec_4 k z p g h (by simpa using h1) (by simpa using h2) (by simpa using h3) w
end Go.Proofs.YtehifbogadohgaaDoor
