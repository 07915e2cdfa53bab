/-
  The walks of Touch, Compare and Floor, of clock and of its reference, for every input.
-/
import Derived.Test.YtehifbogadohgaaCkCont
import Derived.Test.YtehifbogadohgaaCkR
namespace Go.Proofs.Ytehifbogadohgaa
open Go.RowKit Go.Shelf

def floorE (a b : Int) : Int × Int := if inB a (-1000000000000000) 1000000000000000 && inB b 1 1000000000 then (a / b, 0) else (0, 7)
theorem Floor_any (a b : Int) (w : World) : Calls Try.prog 30 #[.int .i64 a, .int .i64 b] w fun e w' => e = .returned (.tuple #[.int .i64 (floorE a b).1, .int .i64 (floorE a b).2]) ∧ w = w' := by
  unfold floorE
  by_cases h1 : inB a (-1000000000000000) 1000000000000000 = true
  · by_cases h2 : inB b 1 1000000000 = true
    · have h3 := (inB_iff _ _ _).1 h1
      have h4 := (inB_iff _ _ _).1 h2
      obtain ⟨h5, h6⟩ := h3
      obtain ⟨h7, h8⟩ := h4
      simp only [h1, h2, Bool.and_self, if_true]
      go_enter Try.func30, Try.ntmps30
      go_wp2_with (first | (go_at_call 47; refine (within_any _ _ _ _).mono ?_; rintro e w' ⟨rfl, rfl⟩) | (go_at_call 42; refine (floor_any _ _ (by omega) (by omega) (by omega) _).mono ?_; rintro e w' ⟨rfl, rfl⟩))
      go_ret2
      exact ⟨rfl, rfl⟩
    · have h2' : inB b 1 1000000000 = false := by simpa using h2
      clear h2
      simp only [h1, h2', Bool.and_false]
      go_enter Try.func30, Try.ntmps30
      go_wp2_with (go_at_call 47; refine (within_any _ _ _ _).mono ?_; rintro e w' ⟨rfl, rfl⟩)
      go_ret2
      exact ⟨rfl, rfl⟩
  · have h1' : inB a (-1000000000000000) 1000000000000000 = false := by simpa using h1
    clear h1
    simp only [h1', Bool.false_and]
    go_enter Try.func30, Try.ntmps30
    go_wp2_with (go_at_call 47; refine (within_any _ _ _ _).mono ?_; rintro e w' ⟨rfl, rfl⟩)
    go_ret2
    exact ⟨rfl, rfl⟩
theorem RFloor_any (a b : Int) (w : World) : Calls Try.prog 31 #[.int .i64 a, .int .i64 b] w fun e w' => e = .returned (.tuple #[.int .i64 (floorE a b).1, .int .i64 (floorE a b).2]) ∧ w = w' := by
  unfold floorE
  by_cases h1 : inB a (-1000000000000000) 1000000000000000 = true
  · by_cases h2 : inB b 1 1000000000 = true
    · have h3 := (inB_iff _ _ _).1 h1
      have h4 := (inB_iff _ _ _).1 h2
      obtain ⟨h5, h6⟩ := h3
      obtain ⟨h7, h8⟩ := h4
      simp only [h1, h2, Bool.and_self, if_true]
      go_enter Try.func31, Try.ntmps31
      go_wp2_with (first | (go_at_call 50; refine (Within_any _ _ _ _).mono ?_; rintro e w' ⟨rfl, rfl⟩) | (go_at_call 52; refine (Div_any _ _ (by omega) (by omega) (by omega) (by omega) _).mono ?_; rintro e w' ⟨rfl, rfl⟩))
      go_ret2
      exact ⟨rfl, rfl⟩
    · have h2' : inB b 1 1000000000 = false := by simpa using h2
      clear h2
      simp only [h1, h2', Bool.and_false]
      go_enter Try.func31, Try.ntmps31
      go_wp2_with (go_at_call 50; refine (Within_any _ _ _ _).mono ?_; rintro e w' ⟨rfl, rfl⟩)
      go_ret2
      exact ⟨rfl, rfl⟩
  · have h1' : inB a (-1000000000000000) 1000000000000000 = false := by simpa using h1
    clear h1
    simp only [h1', Bool.false_and]
    go_enter Try.func31, Try.ntmps31
    go_wp2_with (go_at_call 50; refine (Within_any _ _ _ _).mono ?_; rintro e w' ⟨rfl, rfl⟩)
    go_ret2
    exact ⟨rfl, rfl⟩

/-- Two windows have a time in common. -/
def meetB (a b a' b' : Int) : Bool := decide (a < b' ∧ a' < b)
def touchB (a b a' b' : Int) : Bool := vwin a b && (vwin a' b' && meetB a b a' b')

theorem touch_any (a b a' b' : Int) (w : World) : Calls Try.prog 51 #[.agg #[.int .i64 a, .int .i64 b], .agg #[.int .i64 a', .int .i64 b']] w (RetV w (.bool (meetB a b a' b'))) := by
  by_cases h1 : a < b'
  · by_cases h2 : a' < b
    · have HM : Hid (meetB a b a' b' = true) := hide (by simp [meetB, h1, h2])
      go_enter Try.func51, Try.ntmps51
      go_wp2
      go_ret
      exact ⟨ret_bool (by rw [HM.out]; try simp [*]), by go_grown⟩
    · have HM : Hid (meetB a b a' b' = false) := hide (by simp [meetB, h1, h2])
      go_enter Try.func51, Try.ntmps51
      go_wp2
      go_ret
      exact ⟨ret_bool (by rw [HM.out]; try (simp [*]); try omega), by go_grown⟩
  · have HM : Hid (meetB a b a' b' = false) := hide (by simp [meetB, h1])
    go_enter Try.func51, Try.ntmps51
    go_wp2
    go_ret
    exact ⟨ret_bool (by rw [HM.out]; try simp [*]), by go_grown⟩

set_option maxHeartbeats 1000000 in
theorem Touch_any (a b a' b' : Int) (w : World) : Calls Try.prog 27 #[.agg #[.int .i64 a, .int .i64 b], .agg #[.int .i64 a', .int .i64 b']] w (RetV w (.bool (touchB a b a' b'))) := by
  obtain ⟨W, hW⟩ : ∃ W, (w.alloc (.cells #[.int .i64 a, .int .i64 b] 35)).alloc (.cells #[.int .i64 a', .int .i64 b'] 35) = W := ⟨_, rfl⟩
  have b1 : Blk W w.heap.size 35 #[.int .i64 a, .int .i64 b] := by rw [← hW]; exact (Blk.new w _ _).alloc _
  have b2 : Blk W (w.heap.size + 1) 35 #[.int .i64 a', .int .i64 b'] := by
    rw [← hW]; have := Blk.new (w.alloc (.cells #[.int .i64 a, .int .i64 b] 35)) 35 #[.int .i64 a', .int .i64 b']; rwa [World.size_alloc] at this
  have hB0 : Below w.heap.size w W := by rw [← hW]; exact ((Below.refl _ _).alloc (Nat.le_refl _) _).alloc (by simp) _
  have l1 := b1.lt
  have l2 := b2.lt
  by_cases c1 : vwin a b = true
  · by_cases c2 : vwin a' b' = true
    · have d0 := b1.cell 0
      have d1 := b1.cell 1
      simp at d0 d1
      go_enter Try.func27, Try.ntmps27
      go_wp2_with fail
      refine (ValidWindow_any _ _ _).mono ?_
      rintro e w1 ⟨rfl, hB1⟩
      have e0 := (b2.below hB1 l2).cell 0
      have e1 := (b2.below hB1 l2).cell 1
      simp at e0 e1
      go_wp2_with fail
      refine (ValidWindow_any _ _ _).mono ?_
      rintro e w2 ⟨rfl, hB2⟩
      have f0 := ((b1.below hB1 l1).below hB2 (Nat.lt_of_lt_of_le l1 hB1.size)).cell 0
      have f1 := ((b1.below hB1 l1).below hB2 (Nat.lt_of_lt_of_le l1 hB1.size)).cell 1
      have g0 := ((b2.below hB1 l2).below hB2 (Nat.lt_of_lt_of_le l2 hB1.size)).cell 0
      have g1 := ((b2.below hB1 l2).below hB2 (Nat.lt_of_lt_of_le l2 hB1.size)).cell 1
      simp at f0 f1 g0 g1
      go_wp2_with (go_at_call 51; refine (touch_any _ _ _ _ _).mono ?_; rintro e w3 ⟨rfl, hB3⟩)
      go_ret
      exact ⟨ret_bool (by simp [touchB, c1, c2]), hB0.trans ((bstep (bstep hB1 hB2) hB3).mono hB0.size)⟩
    · have c2' : vwin a' b' = false := by simpa using c2
      clear c2
      have d0 := b1.cell 0
      have d1 := b1.cell 1
      simp at d0 d1
      go_enter Try.func27, Try.ntmps27
      go_wp2_with fail
      refine (ValidWindow_any _ _ _).mono ?_
      rintro e w1 ⟨rfl, hB1⟩
      have e0 := (b2.below hB1 l2).cell 0
      have e1 := (b2.below hB1 l2).cell 1
      simp at e0 e1
      go_wp2_with fail
      refine (ValidWindow_any _ _ _).mono ?_
      rintro e w2 ⟨rfl, hB2⟩
      go_wp2
      go_ret
      exact ⟨ret_bool (by simp [touchB, c1, c2']), hB0.trans ((bstep hB1 hB2).mono hB0.size)⟩
  · have c1' : vwin a b = false := by simpa using c1
    clear c1
    have d0 := b1.cell 0
    have d1 := b1.cell 1
    simp at d0 d1
    go_enter Try.func27, Try.ntmps27
    go_wp2_with fail
    refine (ValidWindow_any _ _ _).mono ?_
    rintro e w1 ⟨rfl, hB1⟩
    go_wp2
    go_ret
    exact ⟨ret_bool (by simp [touchB, c1']), hB0.trans (hB1.mono hB0.size)⟩

theorem eqWin (a b a' b' : Int) (w : World) : (binOp .eql 35 (.agg #[.int .i64 a, .int .i64 b]) (.agg #[.int .i64 a', .int .i64 b'])).run Try.prog w = (.ok (.bool (eqW a b a' b')) w) := by
  have u3 := Try.underlying3
  have a3 := Try.isAgg3
  have z3 := Try.sizeOf3
  have hS : Try.prog.underlying 35 = some (.struct (Try.prog.fieldsOf 35)) := by kernel_rfl
  have hp : Try.prog.stoodInHeld 35 = false := by kernel_rfl
  rw [run_eql_struct, show (10000 : Nat) = 9999 + 1 from rfl, run_equalIn_agg w 9999 35 _ _ hS hp]
  simp only [Program.fieldsOf, Try.underlying35]
  go_simp
  by_cases h1 : a = a' <;> by_cases h2 : b = b' <;> simp [h1, h2, eqW]

set_option maxHeartbeats 1000000 in
theorem RCompare_any (a b a' b' : Int) (w : World) : Calls Try.prog 29 #[.agg #[.int .i64 a, .int .i64 b], .agg #[.int .i64 a', .int .i64 b']] w (RetV w (.int .i64 (cmpW a b a' b'))) := by
  have heq := eqWin
  have hm : Try.prog.eqGuardType Try.prog.depth 35 = false := by kernel_rfl
  rcases Int.lt_trichotomy a a' with h | h | h
  · have HR : Hid (cmpW a b a' b' = -1) := hide (by unfold cmpW; rw [cmpI_lt h]; rfl)
    have he : eqW a b a' b' = false := by simp [eqW]; omega
    go_enter Try.func29, Try.ntmps29
    go_wp2
    go_ret
    exact ⟨ret_int HR.out.symm, by go_grown⟩
  · subst h
    rcases Int.lt_trichotomy b b' with h2 | h2 | h2
    · have HR : Hid (cmpW a b a b' = -1) := hide (by unfold cmpW; rw [cmpI_eq, cmpI_lt h2]; rfl)
      have he : eqW a b a b' = false := by simp [eqW]; omega
      go_enter Try.func29, Try.ntmps29
      go_wp2
      go_ret
      exact ⟨ret_int HR.out.symm, by go_grown⟩
    · subst h2
      have HR : Hid (cmpW a b a b = 0) := hide (by unfold cmpW; rw [cmpI_eq, cmpI_eq]; rfl)
      have he : eqW a b a b = true := by simp [eqW]
      go_enter Try.func29, Try.ntmps29
      go_wp2
      go_ret
      exact ⟨ret_int HR.out.symm, by go_grown⟩
    · have HR : Hid (cmpW a b a b' = 1) := hide (by unfold cmpW; rw [cmpI_eq, cmpI_gt h2]; rfl)
      have he : eqW a b a b' = false := by simp [eqW]; omega
      have h2' : ¬ b < b' := by omega
      go_enter Try.func29, Try.ntmps29
      go_wp2
      go_ret
      exact ⟨ret_int HR.out.symm, by go_grown⟩
  · have HR : Hid (cmpW a b a' b' = 1) := hide (by unfold cmpW; rw [cmpI_gt h]; rfl)
    have he : eqW a b a' b' = false := by simp [eqW]; omega
    have h' : ¬ a < a' := by omega
    have h'' : (a == a') = false := by simp; omega
    go_enter Try.func29, Try.ntmps29
    go_wp2
    go_ret
    exact ⟨ret_int HR.out.symm, by go_grown⟩
end Go.Proofs.Ytehifbogadohgaa
