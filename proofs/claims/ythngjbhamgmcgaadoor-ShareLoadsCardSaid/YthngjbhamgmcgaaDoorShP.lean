/-
  The walks of share.Group, Part, Of, first, Range and of their references, for every input (texts within the greatest length).
-/
import Derived.Test.YthngjbhamgmcgaaDoorShH
namespace Go.Proofs.YthngjbhamgmcgaaDoor
open Go.RowKit Go.Shelf
attribute [local go_sem] Oper.semAt_some

theorem hstep_b (h : Int) (c : UInt8) : 0 ≤ hstep h c ∧ hstep h c < 18446744073709551616 := by
  unfold hstep
  rw [IntKind.wrap_u64]
  omega
theorem hfold_b (l : List UInt8) : ∀ h : Int, 0 ≤ h ∧ h < 18446744073709551616 → 0 ≤ l.foldl hstep h ∧ l.foldl hstep h < 18446744073709551616 := by
  induction l with
  | nil => intro h hh; exact hh
  | cons c l ih => intro h _; exact ih _ (hstep_b h c)
theorem hashL_b (l : List UInt8) : 0 ≤ hashL l ∧ hashL l < 18446744073709551616 := hfold_b l _ (by decide)

/-- A key's group where groups are in their range. -/
def grpN (s : ByteArray) (g : Int) : Int := hashL s.data.toList % g
theorem grpN_b (s : ByteArray) (g : Int) (h1 : 1 ≤ g) : 0 ≤ grpN s g ∧ grpN s g < g := ⟨Int.emod_nonneg _ (by omega), Int.emod_lt_of_pos _ (by omega)⟩
def grpE (s : ByteArray) (g : Int) : Int × Int := if decide (1 ≤ g ∧ g ≤ 128) then (grpN s g, 0) else (0, 7)
def partE (g p G : Int) : Int × Int := if rightB p G && decide (0 ≤ g ∧ g < G) then (g * p / G, 0) else (0, 7)
def ofE (s : ByteArray) (p G : Int) : Int × Int := if rightB p G then (grpN s G * p / G, 0) else (0, 7)

theorem fits_any (s : ByteArray) (hs : s.size ≤ 65536) (w : World) : Calls Tryd.prog 42 #[.string s] w fun e w' => e = .returned (.bool true) ∧ w = w' := by
  go_enter Tryd.func42, Tryd.ntmps42
  go_wp2
  go_ret
  exact ⟨ret_bool (by simp; omega), rfl⟩

set_option maxHeartbeats 1000000 in
theorem Group_any (s : ByteArray) (hs : s.size ≤ 65536) (g : Int) (w : World) : Calls Tryd.prog 59 #[.string s, .int .i64 g] w fun e w' => e = .returned (.tuple #[.int .i64 (grpE s g).1, .int .i64 (grpE s g).2]) ∧ w = w' := by
  unfold grpE
  by_cases h : 1 ≤ g ∧ g ≤ 128
  · have h1 : rightB 1 g = true := by simp [rightB, h]
    have h2 : decide (1 ≤ g ∧ g ≤ 128) = true := by simp [h]
    simp only [h2, if_true]
    have hb := hashL_b s.data.toList
    have hg := grpN_b s g h.1
    have hm : hashL s.data.toList % g = grpN s g := rfl
    go_enter Tryd.func59, Tryd.ntmps59
    go_wp2_with (first | (go_at_call 42; refine (fits_any s hs _).mono ?_; rintro e w' ⟨rfl, rfl⟩) | (go_at_call 20; refine (right_any _ _ _).mono ?_; rintro e w' ⟨rfl, rfl⟩) | (go_at_call 66; refine (Hash_any s _ (by unfold maxLen; omega)).mono ?_; rintro e w' ⟨rfl, rfl⟩))
    go_ret2
    exact ⟨rfl, rfl⟩
  · have h1 : rightB 1 g = false := by simp [rightB]; omega
    have h2 : decide (1 ≤ g ∧ g ≤ 128) = false := by simp; omega
    clear h
    simp only [h2]
    go_enter Tryd.func59, Tryd.ntmps59
    go_wp2_with (first | (go_at_call 42; refine (fits_any s hs _).mono ?_; rintro e w' ⟨rfl, rfl⟩) | (go_at_call 20; refine (right_any _ _ _).mono ?_; rintro e w' ⟨rfl, rfl⟩))
    go_ret2
    exact ⟨rfl, rfl⟩

set_option maxHeartbeats 1000000 in
theorem RGroup_any (s : ByteArray) (hs : s.size ≤ 65536) (g : Int) (w : World) : Calls Tryd.prog 44 #[.string s, .int .i64 g] w fun e w' => e = .returned (.tuple #[.int .i64 (grpE s g).1, .int .i64 (grpE s g).2]) ∧ w = w' := by
  unfold grpE
  by_cases h : 1 ≤ g ∧ g ≤ 128
  · have h2 : decide (1 ≤ g ∧ g ≤ 128) = true := by simp [h]
    simp only [h2, if_true]
    have hb := hashL_b s.data.toList
    have hg := grpN_b s g h.1
    have hm : hashL s.data.toList % g = grpN s g := rfl
    go_enter Tryd.func44, Tryd.ntmps44
    go_wp2_with (first | (go_at_call 27; refine (In_any _ _ _).mono ?_; rintro e w' ⟨rfl, rfl⟩) | (go_at_call 61; refine (RHash_any s _ (by unfold maxLen; omega)).mono ?_; rintro e w' ⟨rfl, rfl⟩))
    go_ret2
    exact ⟨rfl, rfl⟩
  · have h2 : decide (1 ≤ g ∧ g ≤ 128) = false := by simp; omega
    clear h
    simp only [h2]
    go_enter Tryd.func44, Tryd.ntmps44
    go_wp2_with (first | (go_at_call 27; refine (In_any _ _ _).mono ?_; rintro e w' ⟨rfl, rfl⟩))
    go_ret2
    exact ⟨rfl, rfl⟩
end Go.Proofs.YthngjbhamgmcgaaDoor
