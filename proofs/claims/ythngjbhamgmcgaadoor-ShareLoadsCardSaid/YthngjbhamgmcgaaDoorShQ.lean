/-
  The walks of share.Part, Of, first, Range and of their references, for every input (texts within the greatest length).
-/
import Derived.Test.YthngjbhamgmcgaaDoorShP
namespace Go.Proofs.YthngjbhamgmcgaaDoor
open Go.RowKit Go.Shelf
attribute [local go_sem] Oper.semAt_some

theorem rightB_iff (p g : Int) : rightB p g = true ↔ 1 ≤ p ∧ p ≤ 16 ∧ 1 ≤ g ∧ g ≤ 128 := by simp [rightB]

theorem part_b (g p G : Int) (h : 1 ≤ p ∧ p ≤ 16 ∧ 1 ≤ G ∧ G ≤ 128) (hg : 0 ≤ g ∧ g < G) : 0 ≤ g * p ∧ g * p ≤ 2048 ∧ 0 ≤ g * p / G ∧ g * p / G ≤ 2048 := by
  have h1 : 0 ≤ g * p := Int.mul_nonneg hg.1 (by omega)
  have h2 : g * p ≤ 128 * 16 := Int.mul_le_mul (by omega) h.2.1 (by omega) (by omega)
  refine ⟨h1, by omega, Int.ediv_nonneg h1 (by omega), ?_⟩
  exact Int.le_trans (Int.ediv_le_self _ h1) (by omega)

set_option maxHeartbeats 1000000 in
theorem Part_any (g p G : Int) (w : World) : Calls Tryd.prog 60 #[.int .i64 g, .int .i64 p, .int .i64 G] w fun e w' => e = .returned (.tuple #[.int .i64 (partE g p G).1, .int .i64 (partE g p G).2]) ∧ w = w' := by
  unfold partE
  by_cases h : rightB p G = true
  · have h0 := (rightB_iff p G).1 h
    by_cases h1 : 0 ≤ g
    · by_cases h2 : g < G
      · have hd : decide (0 ≤ g ∧ g < G) = true := by simp [h1, h2]
        simp only [h, hd, Bool.and_self, if_true]
        have hb := part_b g p G h0 ⟨h1, h2⟩
        clear hd
        go_enter Tryd.func60, Tryd.ntmps60
        go_wp2_with (go_at_call 20; refine (right_any _ _ _).mono ?_; rintro e w' ⟨rfl, rfl⟩)
        go_ret2
        exact ⟨rfl, rfl⟩
      · have hd : decide (0 ≤ g ∧ g < G) = false := by simp [h2]
        simp only [h, hd, Bool.and_false]
        clear hd
        go_enter Tryd.func60, Tryd.ntmps60
        go_wp2_with (go_at_call 20; refine (right_any _ _ _).mono ?_; rintro e w' ⟨rfl, rfl⟩)
        go_ret2
        exact ⟨rfl, rfl⟩
    · have hd : decide (0 ≤ g ∧ g < G) = false := by simp [h1]
      simp only [h, hd, Bool.and_false]
      clear hd
      go_enter Tryd.func60, Tryd.ntmps60
      go_wp2_with (go_at_call 20; refine (right_any _ _ _).mono ?_; rintro e w' ⟨rfl, rfl⟩)
      go_ret2
      exact ⟨rfl, rfl⟩
  · have h' : rightB p G = false := by simpa using h
    clear h
    simp only [h', Bool.false_and]
    go_enter Tryd.func60, Tryd.ntmps60
    go_wp2_with (go_at_call 20; refine (right_any _ _ _).mono ?_; rintro e w' ⟨rfl, rfl⟩)
    go_ret2
    exact ⟨rfl, rfl⟩

set_option maxHeartbeats 1000000 in
theorem RPart_any (g p G : Int) (w : World) : Calls Tryd.prog 45 #[.int .i64 g, .int .i64 p, .int .i64 G] w fun e w' => e = .returned (.tuple #[.int .i64 (partE g p G).1, .int .i64 (partE g p G).2]) ∧ w = w' := by
  unfold partE
  by_cases h : rightB p G = true
  · have h0 := (rightB_iff p G).1 h
    by_cases h1 : 0 ≤ g
    · by_cases h2 : g < G
      · have hd : decide (0 ≤ g ∧ g < G) = true := by simp [h1, h2]
        simp only [h, hd, Bool.and_self, if_true]
        have hb := part_b g p G h0 ⟨h1, h2⟩
        clear hd
        go_enter Tryd.func45, Tryd.ntmps45
        go_wp2_with (go_at_call 24; refine (numbers_any _ _ _).mono ?_; rintro e w' ⟨rfl, rfl⟩)
        go_ret2
        exact ⟨rfl, rfl⟩
      · have hd : decide (0 ≤ g ∧ g < G) = false := by simp [h2]
        simp only [h, hd, Bool.and_false]
        clear hd
        go_enter Tryd.func45, Tryd.ntmps45
        go_wp2_with (go_at_call 24; refine (numbers_any _ _ _).mono ?_; rintro e w' ⟨rfl, rfl⟩)
        go_ret2
        exact ⟨rfl, rfl⟩
    · have hd : decide (0 ≤ g ∧ g < G) = false := by simp [h1]
      simp only [h, hd, Bool.and_false]
      clear hd
      go_enter Tryd.func45, Tryd.ntmps45
      go_wp2_with (go_at_call 24; refine (numbers_any _ _ _).mono ?_; rintro e w' ⟨rfl, rfl⟩)
      go_ret2
      exact ⟨rfl, rfl⟩
  · have h' : rightB p G = false := by simpa using h
    clear h
    simp only [h', Bool.false_and]
    go_enter Tryd.func45, Tryd.ntmps45
    go_wp2_with (go_at_call 24; refine (numbers_any _ _ _).mono ?_; rintro e w' ⟨rfl, rfl⟩)
    go_ret2
    exact ⟨rfl, rfl⟩

set_option maxHeartbeats 1000000 in
theorem Of_any (s : ByteArray) (hs : s.size ≤ 65536) (p G : Int) (w : World) : Calls Tryd.prog 43 #[.string s, .int .i64 p, .int .i64 G] w fun e w' => e = .returned (.tuple #[.int .i64 (ofE s p G).1, .int .i64 (ofE s p G).2]) ∧ w = w' := by
  unfold ofE
  by_cases h : rightB p G = true
  · have h0 := (rightB_iff p G).1 h
    have hb := grpN_b s G h0.2.2.1
    have hG : grpE s G = (grpN s G, 0) := by unfold grpE; rw [if_pos]; simp; omega
    have hP : partE (grpN s G) p G = (grpN s G * p / G, 0) := by unfold partE; rw [if_pos]; simp [h]; omega
    simp only [h, if_true]
    go_enter Tryd.func43, Tryd.ntmps43
    go_wp2_with (first | (go_at_call 42; refine (fits_any s hs _).mono ?_; rintro e w' ⟨rfl, rfl⟩) | (go_at_call 20; refine (right_any _ _ _).mono ?_; rintro e w' ⟨rfl, rfl⟩) | (go_at_call 59; refine (Group_any s hs _ _).mono ?_; rintro e w' ⟨rfl, rfl⟩; rw [hG]) | (go_at_call 60; refine (Part_any _ _ _ _).mono ?_; rintro e w' ⟨rfl, rfl⟩; rw [hP]))
    go_ret2
    exact ⟨rfl, rfl⟩
  · have h' : rightB p G = false := by simpa using h
    clear h
    simp only [h']
    go_enter Tryd.func43, Tryd.ntmps43
    go_wp2_with (first | (go_at_call 42; refine (fits_any s hs _).mono ?_; rintro e w' ⟨rfl, rfl⟩) | (go_at_call 20; refine (right_any _ _ _).mono ?_; rintro e w' ⟨rfl, rfl⟩))
    go_ret2
    exact ⟨rfl, rfl⟩

set_option maxHeartbeats 1000000 in
theorem ROf_any (s : ByteArray) (hs : s.size ≤ 65536) (p G : Int) (w : World) : Calls Tryd.prog 25 #[.string s, .int .i64 p, .int .i64 G] w fun e w' => e = .returned (.tuple #[.int .i64 (ofE s p G).1, .int .i64 (ofE s p G).2]) ∧ w = w' := by
  unfold ofE
  by_cases h : rightB p G = true
  · have h0 := (rightB_iff p G).1 h
    have hb := grpN_b s G h0.2.2.1
    have hG : grpE s G = (grpN s G, 0) := by unfold grpE; rw [if_pos]; simp; omega
    have hP : partE (grpN s G) p G = (grpN s G * p / G, 0) := by unfold partE; rw [if_pos]; simp [h]; omega
    simp only [h, if_true]
    go_enter Tryd.func25, Tryd.ntmps25
    go_wp2_with (first | (go_at_call 24; refine (numbers_any _ _ _).mono ?_; rintro e w' ⟨rfl, rfl⟩) | (go_at_call 44; refine (RGroup_any s hs _ _).mono ?_; rintro e w' ⟨rfl, rfl⟩; rw [hG]) | (go_at_call 45; refine (RPart_any _ _ _ _).mono ?_; rintro e w' ⟨rfl, rfl⟩; rw [hP]))
    go_ret2
    exact ⟨rfl, rfl⟩
  · have h' : rightB p G = false := by simpa using h
    clear h
    simp only [h']
    go_enter Tryd.func25, Tryd.ntmps25
    go_wp2_with (first | (go_at_call 24; refine (numbers_any _ _ _).mono ?_; rintro e w' ⟨rfl, rfl⟩))
    go_ret2
    exact ⟨rfl, rfl⟩
end Go.Proofs.YthngjbhamgmcgaaDoor
