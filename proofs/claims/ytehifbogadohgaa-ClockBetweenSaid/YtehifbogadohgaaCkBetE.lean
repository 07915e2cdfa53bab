/-
  The walks of Next and Between where they hand back an error, of clock and of its reference.
-/
import Derived.Test.YtehifbogadohgaaCkRW
namespace Go.Proofs.Ytehifbogadohgaa
open Go.RowKit Go.Shelf

theorem stepped_any (k z p g h : Int) (w : World) : Calls Try.prog 43 #[.agg #[.int .i64 k, .int .i64 z, .int .i64 p, .int .i64 g, .int .i64 h]] w (RetV w (.bool (decide (k = 1 ∨ k = 2)))) := by
  by_cases h1 : k = 1
  · subst h1
    go_enter Try.func43, Try.ntmps43
    go_wp2
    go_ret
    exact ⟨ret_bool (by simp), by go_grown⟩
  · have h1' : (k == 1) = false := by simpa using h1
    have HK := hide h1
    clear h1
    by_cases h2 : k = 2
    · subst h2
      go_enter Try.func43, Try.ntmps43
      go_wp2
      go_ret
      exact ⟨ret_bool (by simp), by go_grown⟩
    · have h2' : (k == 2) = false := by simpa using h2
      have HK2 := hide h2
      clear h2
      go_enter Try.func43, Try.ntmps43
      go_wp2
      go_ret
      exact ⟨ret_bool (by have := HK.out; have := HK2.out; simp [*]), by go_grown⟩

def notStep (k : Int) : Bool := decide (k ≠ 1 ∧ k ≠ 2)
theorem notStep_f {k : Int} (h : notStep k = true) : (k == 1) = false ∧ (k == 2) = false ∧ (k != 1) = true ∧ (k != 2) = true ∧ decide (k = 1 ∨ k = 2) = false := by
  simp only [notStep, decide_eq_true_eq] at h
  refine ⟨by simpa using h.1, by simpa using h.2, by simpa using h.1, by simpa using h.2, by simp [h.1, h.2]⟩

theorem Next_e1 (k z p g h t : Int) (hv : vspec k z p g h = false) (w : World) : Calls Try.prog 15 #[.agg #[.int .i64 k, .int .i64 z, .int .i64 p, .int .i64 g, .int .i64 h], .int .i64 t] w (RetV w (.tuple #[.int .i64 0, .int .i64 1])) := by
  have HV := hide hv
  clear hv
  go_enter Try.func15, Try.ntmps15
  go_wp2_with fail
  refine (ValidSpec_any _ _ _ _ _ _).mono ?_
  rintro e w1 ⟨rfl, hB1⟩
  rw [HV.out]
  have bs1 := (Blk.new w 27 #[.int .i64 k, .int .i64 z, .int .i64 p, .int .i64 g, .int .i64 h]).below hB1 (by simp)
  have e0 := bs1.cell 0
  have e1 := bs1.cell 1
  have e2 := bs1.cell 2
  have e3 := bs1.cell 3
  have e4 := bs1.cell 4
  simp at e0 e1 e2 e3 e4
  go_wp2_with (go_at_call 20; refine (Valid_any _ _).mono ?_; rintro e w' ⟨rfl, rfl⟩)
  go_ret2
  exact ⟨rfl, bstep ((Below.refl _ w).alloc (Nat.le_refl _) _) hB1⟩

theorem Next_e7 (k z p g h t : Int) (hv : vspec k z p g h = true) (ht : vtime t = false) (w : World) : Calls Try.prog 15 #[.agg #[.int .i64 k, .int .i64 z, .int .i64 p, .int .i64 g, .int .i64 h], .int .i64 t] w (RetV w (.tuple #[.int .i64 0, .int .i64 7])) := by
  have HV := hide hv
  clear hv
  go_enter Try.func15, Try.ntmps15
  go_wp2_with fail
  refine (ValidSpec_any _ _ _ _ _ _).mono ?_
  rintro e w1 ⟨rfl, hB1⟩
  rw [HV.out]
  have bs1 := (Blk.new w 27 #[.int .i64 k, .int .i64 z, .int .i64 p, .int .i64 g, .int .i64 h]).below hB1 (by simp)
  have e0 := bs1.cell 0
  have e1 := bs1.cell 1
  have e2 := bs1.cell 2
  have e3 := bs1.cell 3
  have e4 := bs1.cell 4
  simp at e0 e1 e2 e3 e4
  go_wp2_with (go_at_call 20; refine (Valid_any _ _).mono ?_; rintro e w' ⟨rfl, rfl⟩)
  go_ret2
  exact ⟨rfl, bstep ((Below.refl _ w).alloc (Nat.le_refl _) _) hB1⟩

theorem Next_e11 (k z p g h t : Int) (hv : vspec k z p g h = true) (ht : vtime t = true) (hk : notStep k = true) (w : World) : Calls Try.prog 15 #[.agg #[.int .i64 k, .int .i64 z, .int .i64 p, .int .i64 g, .int .i64 h], .int .i64 t] w (RetV w (.tuple #[.int .i64 0, .int .i64 11])) := by
  have HV := hide hv
  clear hv
  obtain ⟨k1, k2, k3, k4, k5⟩ := notStep_f hk
  go_enter Try.func15, Try.ntmps15
  go_wp2_with fail
  refine (ValidSpec_any _ _ _ _ _ _).mono ?_
  rintro e w1 ⟨rfl, hB1⟩
  rw [HV.out]
  have bs1 := (Blk.new w 27 #[.int .i64 k, .int .i64 z, .int .i64 p, .int .i64 g, .int .i64 h]).below hB1 (by simp)
  have e0 := bs1.cell 0
  have e1 := bs1.cell 1
  have e2 := bs1.cell 2
  have e3 := bs1.cell 3
  have e4 := bs1.cell 4
  simp at e0 e1 e2 e3 e4
  go_wp2_with (go_at_call 20; refine (Valid_any _ _).mono ?_; rintro e w' ⟨rfl, rfl⟩)
  go_ret2
  exact ⟨rfl, bstep ((Below.refl _ w).alloc (Nat.le_refl _) _) hB1⟩

theorem RNext_e1 (k z p g h t : Int) (hv : vspec k z p g h = false) (w : World) : Calls Try.prog 16 #[.agg #[.int .i64 k, .int .i64 z, .int .i64 p, .int .i64 g, .int .i64 h], .int .i64 t] w (RetV w (.tuple #[.int .i64 0, .int .i64 1])) := by
  have HV := hide hv
  clear hv
  go_enter Try.func16, Try.ntmps16
  go_wp2_with fail
  refine (RValidSpec_any _ _ _ _ _ _).mono ?_
  rintro e w1 ⟨rfl, hB1⟩
  rw [HV.out]
  have bs1 := (Blk.new w 27 #[.int .i64 k, .int .i64 z, .int .i64 p, .int .i64 g, .int .i64 h]).below hB1 (by simp)
  have e0 := bs1.cell 0
  have e1 := bs1.cell 1
  have e2 := bs1.cell 2
  have e3 := bs1.cell 3
  have e4 := bs1.cell 4
  simp at e0 e1 e2 e3 e4
  go_wp2_with (go_at_call 21; refine (RValid_any _ _).mono ?_; rintro e w' ⟨rfl, rfl⟩)
  go_ret2
  exact ⟨rfl, bstep ((Below.refl _ w).alloc (Nat.le_refl _) _) hB1⟩

theorem RNext_e7 (k z p g h t : Int) (hv : vspec k z p g h = true) (ht : vtime t = false) (w : World) : Calls Try.prog 16 #[.agg #[.int .i64 k, .int .i64 z, .int .i64 p, .int .i64 g, .int .i64 h], .int .i64 t] w (RetV w (.tuple #[.int .i64 0, .int .i64 7])) := by
  have HV := hide hv
  clear hv
  go_enter Try.func16, Try.ntmps16
  go_wp2_with fail
  refine (RValidSpec_any _ _ _ _ _ _).mono ?_
  rintro e w1 ⟨rfl, hB1⟩
  rw [HV.out]
  have bs1 := (Blk.new w 27 #[.int .i64 k, .int .i64 z, .int .i64 p, .int .i64 g, .int .i64 h]).below hB1 (by simp)
  have e0 := bs1.cell 0
  have e1 := bs1.cell 1
  have e2 := bs1.cell 2
  have e3 := bs1.cell 3
  have e4 := bs1.cell 4
  simp at e0 e1 e2 e3 e4
  go_wp2_with (go_at_call 21; refine (RValid_any _ _).mono ?_; rintro e w' ⟨rfl, rfl⟩)
  go_ret2
  exact ⟨rfl, bstep ((Below.refl _ w).alloc (Nat.le_refl _) _) hB1⟩

theorem RNext_e11 (k z p g h t : Int) (hv : vspec k z p g h = true) (ht : vtime t = true) (hk : notStep k = true) (w : World) : Calls Try.prog 16 #[.agg #[.int .i64 k, .int .i64 z, .int .i64 p, .int .i64 g, .int .i64 h], .int .i64 t] w (RetV w (.tuple #[.int .i64 0, .int .i64 11])) := by
  have HV := hide hv
  clear hv
  obtain ⟨k1, k2, k3, k4, k5⟩ := notStep_f hk
  go_enter Try.func16, Try.ntmps16
  go_wp2_with fail
  refine (RValidSpec_any _ _ _ _ _ _).mono ?_
  rintro e w1 ⟨rfl, hB1⟩
  rw [HV.out]
  have bs1 := (Blk.new w 27 #[.int .i64 k, .int .i64 z, .int .i64 p, .int .i64 g, .int .i64 h]).below hB1 (by simp)
  have e0 := bs1.cell 0
  have e1 := bs1.cell 1
  have e2 := bs1.cell 2
  have e3 := bs1.cell 3
  have e4 := bs1.cell 4
  simp at e0 e1 e2 e3 e4
  go_wp2_with (first | (go_at_call 21; refine (RValid_any _ _).mono ?_; rintro e w' ⟨rfl, rfl⟩) | (go_at_call 43; refine (stepped_any _ _ _ _ _ _).mono ?_; rintro e w2 ⟨rfl, hB2⟩))
  go_ret2
  exact ⟨rfl, bstep (bstep ((Below.refl _ w).alloc (Nat.le_refl _) _) hB1) hB2⟩

theorem Between_e1 (k z p g h f t : Int) (hv : vspec k z p g h = false) (w : World) : Calls Try.prog 13 #[.agg #[.int .i64 k, .int .i64 z, .int .i64 p, .int .i64 g, .int .i64 h], .int .i64 f, .int .i64 t] w (RetSlE w 2 0 [] 1) := by
  have HV := hide hv
  clear hv
  go_enter Try.func13, Try.ntmps13
  go_wp2_with fail
  refine (ValidSpec_any _ _ _ _ _ _).mono ?_
  rintro e w1 ⟨rfl, hB1⟩
  rw [HV.out]
  have bs1 := (Blk.new w 27 #[.int .i64 k, .int .i64 z, .int .i64 p, .int .i64 g, .int .i64 h]).below hB1 (by simp)
  have e0 := bs1.cell 0
  have e1 := bs1.cell 1
  have e2 := bs1.cell 2
  have e3 := bs1.cell 3
  have e4 := bs1.cell 4
  simp at e0 e1 e2 e3 e4
  go_wp2_with (go_at_call 20; refine (Valid_any _ _).mono ?_; rintro e w' ⟨rfl, rfl⟩)
  go_ret2
  exact ⟨none, 0, rfl, Reads.none_, bstep ((Below.refl _ w).alloc (Nat.le_refl _) _) hB1⟩

set_option maxHeartbeats 1000000 in
theorem Between_e7 (k z p g h f t : Int) (hv : vspec k z p g h = true) (hft : (vtime f && (vtime t && decide (f ≤ t))) = false) (w : World) : Calls Try.prog 13 #[.agg #[.int .i64 k, .int .i64 z, .int .i64 p, .int .i64 g, .int .i64 h], .int .i64 f, .int .i64 t] w (RetSlE w 2 0 [] 7) := by
  have HV := hide hv
  clear hv
  by_cases h1 : vtime f = true
  · by_cases h2 : vtime t = true
    · have h3 : t < f := by simp [h1, h2] at hft; exact hft
      clear hft
      go_enter Try.func13, Try.ntmps13
      go_wp2_with fail
      refine (ValidSpec_any _ _ _ _ _ _).mono ?_
      rintro e w1 ⟨rfl, hB1⟩
      rw [HV.out]
      have bs1 := (Blk.new w 27 #[.int .i64 k, .int .i64 z, .int .i64 p, .int .i64 g, .int .i64 h]).below hB1 (by simp)
      have e0 := bs1.cell 0
      have e1 := bs1.cell 1
      have e2 := bs1.cell 2
      have e3 := bs1.cell 3
      have e4 := bs1.cell 4
      simp at e0 e1 e2 e3 e4
      go_wp2_with (go_at_call 20; refine (Valid_any _ _).mono ?_; rintro e w' ⟨rfl, rfl⟩)
      go_ret2
      exact ⟨none, 0, rfl, Reads.none_, bstep ((Below.refl _ w).alloc (Nat.le_refl _) _) hB1⟩
    · have h2' : vtime t = false := by simpa using h2
      clear h2 hft
      go_enter Try.func13, Try.ntmps13
      go_wp2_with fail
      refine (ValidSpec_any _ _ _ _ _ _).mono ?_
      rintro e w1 ⟨rfl, hB1⟩
      rw [HV.out]
      have bs1 := (Blk.new w 27 #[.int .i64 k, .int .i64 z, .int .i64 p, .int .i64 g, .int .i64 h]).below hB1 (by simp)
      have e0 := bs1.cell 0
      have e1 := bs1.cell 1
      have e2 := bs1.cell 2
      have e3 := bs1.cell 3
      have e4 := bs1.cell 4
      simp at e0 e1 e2 e3 e4
      go_wp2_with (go_at_call 20; refine (Valid_any _ _).mono ?_; rintro e w' ⟨rfl, rfl⟩)
      go_ret2
      exact ⟨none, 0, rfl, Reads.none_, bstep ((Below.refl _ w).alloc (Nat.le_refl _) _) hB1⟩
  · have h1' : vtime f = false := by simpa using h1
    clear h1 hft
    go_enter Try.func13, Try.ntmps13
    go_wp2_with fail
    refine (ValidSpec_any _ _ _ _ _ _).mono ?_
    rintro e w1 ⟨rfl, hB1⟩
    rw [HV.out]
    have bs1 := (Blk.new w 27 #[.int .i64 k, .int .i64 z, .int .i64 p, .int .i64 g, .int .i64 h]).below hB1 (by simp)
    have e0 := bs1.cell 0
    have e1 := bs1.cell 1
    have e2 := bs1.cell 2
    have e3 := bs1.cell 3
    have e4 := bs1.cell 4
    simp at e0 e1 e2 e3 e4
    go_wp2_with (go_at_call 20; refine (Valid_any _ _).mono ?_; rintro e w' ⟨rfl, rfl⟩)
    go_ret2
    exact ⟨none, 0, rfl, Reads.none_, bstep ((Below.refl _ w).alloc (Nat.le_refl _) _) hB1⟩

theorem Between_e11 (k z p g h f t : Int) (hv : vspec k z p g h = true) (hf : vtime f = true) (ht : vtime t = true) (hle : f ≤ t) (hk : notStep k = true) (w : World) : Calls Try.prog 13 #[.agg #[.int .i64 k, .int .i64 z, .int .i64 p, .int .i64 g, .int .i64 h], .int .i64 f, .int .i64 t] w (RetSlE w 2 0 [] 11) := by
  have HV := hide hv
  clear hv
  obtain ⟨k1, k2, k3, k4, k5⟩ := notStep_f hk
  go_enter Try.func13, Try.ntmps13
  go_wp2_with fail
  refine (ValidSpec_any _ _ _ _ _ _).mono ?_
  rintro e w1 ⟨rfl, hB1⟩
  rw [HV.out]
  have bs1 := (Blk.new w 27 #[.int .i64 k, .int .i64 z, .int .i64 p, .int .i64 g, .int .i64 h]).below hB1 (by simp)
  have e0 := bs1.cell 0
  have e1 := bs1.cell 1
  have e2 := bs1.cell 2
  have e3 := bs1.cell 3
  have e4 := bs1.cell 4
  simp at e0 e1 e2 e3 e4
  go_wp2_with (go_at_call 20; refine (Valid_any _ _).mono ?_; rintro e w' ⟨rfl, rfl⟩)
  go_ret2
  exact ⟨none, 0, rfl, Reads.none_, bstep ((Below.refl _ w).alloc (Nat.le_refl _) _) hB1⟩

theorem RBetween_e1 (k z p g h f t : Int) (hv : vspec k z p g h = false) (w : World) : Calls Try.prog 14 #[.agg #[.int .i64 k, .int .i64 z, .int .i64 p, .int .i64 g, .int .i64 h], .int .i64 f, .int .i64 t] w (RetSlE w 2 0 [] 1) := by
  have HV := hide hv
  clear hv
  go_enter Try.func14, Try.ntmps14
  go_wp2_with fail
  refine (RValidSpec_any _ _ _ _ _ _).mono ?_
  rintro e w1 ⟨rfl, hB1⟩
  rw [HV.out]
  have bs1 := (Blk.new w 27 #[.int .i64 k, .int .i64 z, .int .i64 p, .int .i64 g, .int .i64 h]).below hB1 (by simp)
  have e0 := bs1.cell 0
  have e1 := bs1.cell 1
  have e2 := bs1.cell 2
  have e3 := bs1.cell 3
  have e4 := bs1.cell 4
  simp at e0 e1 e2 e3 e4
  go_wp2_with (go_at_call 21; refine (RValid_any _ _).mono ?_; rintro e w' ⟨rfl, rfl⟩)
  go_ret2
  exact ⟨none, 0, rfl, Reads.none_, bstep ((Below.refl _ w).alloc (Nat.le_refl _) _) hB1⟩

set_option maxHeartbeats 1000000 in
theorem RBetween_e7 (k z p g h f t : Int) (hv : vspec k z p g h = true) (hft : (vtime f && (vtime t && decide (f ≤ t))) = false) (w : World) : Calls Try.prog 14 #[.agg #[.int .i64 k, .int .i64 z, .int .i64 p, .int .i64 g, .int .i64 h], .int .i64 f, .int .i64 t] w (RetSlE w 2 0 [] 7) := by
  have HV := hide hv
  clear hv
  by_cases h1 : vtime f = true
  · by_cases h2 : vtime t = true
    · have h3 : t < f := by simp [h1, h2] at hft; exact hft
      clear hft
      go_enter Try.func14, Try.ntmps14
      go_wp2_with fail
      refine (RValidSpec_any _ _ _ _ _ _).mono ?_
      rintro e w1 ⟨rfl, hB1⟩
      rw [HV.out]
      have bs1 := (Blk.new w 27 #[.int .i64 k, .int .i64 z, .int .i64 p, .int .i64 g, .int .i64 h]).below hB1 (by simp)
      have e0 := bs1.cell 0
      have e1 := bs1.cell 1
      have e2 := bs1.cell 2
      have e3 := bs1.cell 3
      have e4 := bs1.cell 4
      simp at e0 e1 e2 e3 e4
      go_wp2_with (go_at_call 21; refine (RValid_any _ _).mono ?_; rintro e w' ⟨rfl, rfl⟩)
      go_ret2
      exact ⟨none, 0, rfl, Reads.none_, bstep ((Below.refl _ w).alloc (Nat.le_refl _) _) hB1⟩
    · have h2' : vtime t = false := by simpa using h2
      clear h2 hft
      go_enter Try.func14, Try.ntmps14
      go_wp2_with fail
      refine (RValidSpec_any _ _ _ _ _ _).mono ?_
      rintro e w1 ⟨rfl, hB1⟩
      rw [HV.out]
      have bs1 := (Blk.new w 27 #[.int .i64 k, .int .i64 z, .int .i64 p, .int .i64 g, .int .i64 h]).below hB1 (by simp)
      have e0 := bs1.cell 0
      have e1 := bs1.cell 1
      have e2 := bs1.cell 2
      have e3 := bs1.cell 3
      have e4 := bs1.cell 4
      simp at e0 e1 e2 e3 e4
      go_wp2_with (go_at_call 21; refine (RValid_any _ _).mono ?_; rintro e w' ⟨rfl, rfl⟩)
      go_ret2
      exact ⟨none, 0, rfl, Reads.none_, bstep ((Below.refl _ w).alloc (Nat.le_refl _) _) hB1⟩
  · have h1' : vtime f = false := by simpa using h1
    clear h1 hft
    go_enter Try.func14, Try.ntmps14
    go_wp2_with fail
    refine (RValidSpec_any _ _ _ _ _ _).mono ?_
    rintro e w1 ⟨rfl, hB1⟩
    rw [HV.out]
    have bs1 := (Blk.new w 27 #[.int .i64 k, .int .i64 z, .int .i64 p, .int .i64 g, .int .i64 h]).below hB1 (by simp)
    have e0 := bs1.cell 0
    have e1 := bs1.cell 1
    have e2 := bs1.cell 2
    have e3 := bs1.cell 3
    have e4 := bs1.cell 4
    simp at e0 e1 e2 e3 e4
    go_wp2_with (go_at_call 21; refine (RValid_any _ _).mono ?_; rintro e w' ⟨rfl, rfl⟩)
    go_ret2
    exact ⟨none, 0, rfl, Reads.none_, bstep ((Below.refl _ w).alloc (Nat.le_refl _) _) hB1⟩

theorem RBetween_e11 (k z p g h f t : Int) (hv : vspec k z p g h = true) (hf : vtime f = true) (ht : vtime t = true) (hle : f ≤ t) (hk : notStep k = true) (w : World) : Calls Try.prog 14 #[.agg #[.int .i64 k, .int .i64 z, .int .i64 p, .int .i64 g, .int .i64 h], .int .i64 f, .int .i64 t] w (RetSlE w 2 0 [] 11) := by
  have HV := hide hv
  clear hv
  obtain ⟨k1, k2, k3, k4, k5⟩ := notStep_f hk
  go_enter Try.func14, Try.ntmps14
  go_wp2_with fail
  refine (RValidSpec_any _ _ _ _ _ _).mono ?_
  rintro e w1 ⟨rfl, hB1⟩
  rw [HV.out]
  have bs1 := (Blk.new w 27 #[.int .i64 k, .int .i64 z, .int .i64 p, .int .i64 g, .int .i64 h]).below hB1 (by simp)
  have e0 := bs1.cell 0
  have e1 := bs1.cell 1
  have e2 := bs1.cell 2
  have e3 := bs1.cell 3
  have e4 := bs1.cell 4
  simp at e0 e1 e2 e3 e4
  go_wp2_with (first | (go_at_call 21; refine (RValid_any _ _).mono ?_; rintro e w' ⟨rfl, rfl⟩) | (go_at_call 43; refine (stepped_any _ _ _ _ _ _).mono ?_; rintro e w2 ⟨rfl, hB2⟩))
  go_ret2
  exact ⟨none, 0, rfl, Reads.none_, bstep (bstep ((Below.refl _ w).alloc (Nat.le_refl _) _) hB1) hB2⟩
end Go.Proofs.Ytehifbogadohgaa
