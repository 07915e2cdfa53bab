/-
  The walks of Next, of clock and of its reference, for every spec and time.
-/
import Derived.Test.YtehifbogadohgaaCkBetE
namespace Go.Proofs.Ytehifbogadohgaa
open Go.RowKit Go.Shelf

theorem vtime_bd {t : Int} (h : vtime t = true) : -1000000000000 ≤ t ∧ t ≤ 1000000000000 := by simpa [vtime] using h
theorem isStep {k z p g h : Int} (_ : vspec k z p g h = true) (hk : notStep k = false) : k = 1 ∨ k = 2 := by
  simp [notStep] at hk; omega
theorem first_back (z b h t : Int) : firstOf b h (t - z) = from0 z b h t - b := by
  unfold firstOf from0; rw [Int.add_mul]; omega

theorem stepTests {k : Int} (hk : k = 1 ∨ k = 2) : ((k != 1) && (k != 2)) = false ∧ decide (k = 1 ∨ k = 2) = true := by
  rcases hk with rfl | rfl <;> decide

set_option maxRecDepth 100000 in
set_option maxHeartbeats 2000000 in
theorem Next_ok (k z p g h t : Int) (hv : vspec k z p g h = true) (ht : vtime t = true) (hk : k = 1 ∨ k = 2) (w : World) :
    Calls Try.prog 15 #[.agg #[.int .i64 k, .int .i64 z, .int .i64 p, .int .i64 g, .int .i64 h], .int .i64 t] w (RetV w (.tuple #[.int .i64 (from0 z (stepOf k z p) h t + z), .int .i64 0])) := by
  have hs := stp_of k z p g h hv hk
  obtain ⟨ht1, ht2⟩ := vtime_bd ht
  have hst := fun W => step_any k z p g h W
  obtain ⟨b, hb⟩ : ∃ b, stepOf k z p = b := ⟨_, rfl⟩
  rw [hb] at hs ⊢
  simp only [hb] at hst
  obtain ⟨f1, f2⟩ := from0_bd (t := t) hs
  have ef : from0 z b h t = ((t - z - h) / b + 1) * b + h := rfl
  obtain ⟨s1, s2, s3, s4, s5, s6⟩ := hs
  obtain ⟨a, ha⟩ : ∃ a, from0 z b h t = a := ⟨_, rfl⟩
  rw [ha] at f1 f2 ef ⊢
  have hq1 : (t - z - h) / b * b = a - b - h := by rw [ef, Int.add_mul]; omega
  have hq3 : -3000000000000 ≤ (t - z - h) / b := (Int.le_ediv_iff_mul_le (by omega)).2 (by omega)
  have hq4 : (t - z - h) / b ≤ 3000000000000 := (Int.ediv_le_iff_le_mul (by omega)).2 (by omega)
  have hfl : ∀ W : World, Calls Try.prog 42 #[.int .i64 (t - z - h), .int .i64 b] W fun e w' => e = .returned (.int .i64 ((t - z - h) / b)) ∧ w' = W := fun W =>
    (floor_any _ _ (by omega) (by omega) (by omega) W).mono fun _ _ ⟨he, hw⟩ => ⟨he, hw.symm⟩
  obtain ⟨q, hq⟩ : ∃ q, (t - z - h) / b = q := ⟨_, rfl⟩
  rw [hq] at hq1 hq3 hq4
  simp only [hq] at hfl
  have HV := hide hv
  have HT := hide ht
  have HST := hide hst
  have HFL := hide hfl
  have i1 : IntKind.i64.wrap (t - z) = t - z := IntWalk.i64_in _ (by omega)
  have i2 : IntKind.i64.wrap (t - z - h) = t - z - h := IntWalk.i64_in _ (by omega)
  have i3 : IntKind.i64.wrap (q + 1) = q + 1 := IntWalk.i64_in _ (by omega)
  have i4 : IntKind.i64.wrap ((q + 1) * b) = a - h := by rw [Int.add_mul, hq1, IntWalk.i64_in _ (by omega)]; omega
  have i5 : IntKind.i64.wrap (a - h + h) = a := by rw [IntWalk.i64_in _ (by omega)]; omega
  have i6 : IntKind.i64.wrap (a + z) = a + z := IntWalk.i64_in _ (by omega)
  have k1 : (k != 1) = true → (k != 2) = false := by rcases hk with rfl | rfl <;> decide
  have I1 := hide i1
  have I2 := hide i2
  have I3 := hide i3
  have I4 := hide i4
  have I5 := hide i5
  have I6 := hide i6
  clear hv ht hst hfl hq hq1 ef ha hb i1 i2 i3 i4 i5 i6 k1
  have hkk : ((k == 1) = true ∧ (k != 1) = false) ∨ ((k == 1) = false ∧ (k != 1) = true ∧ (k != 2) = false) := by
    rcases hk with rfl | rfl <;> decide
  clear hk
  rcases hkk with ⟨hk1, hk2⟩ | ⟨hk1, hk2, hk3⟩
  all_goals
    go_enter Try.func15, Try.ntmps15
    go_wp2_with fail
    refine (ValidSpec_any _ _ _ _ _ _).mono ?_
    rintro e w1 ⟨rfl, hB1⟩
    rw [HV.out]
    have bs1 := (Blk.new w 27 #[.int .i64 k, .int .i64 z, .int .i64 p, .int .i64 g, .int .i64 h]).below hB1 (by simp)
    have e0 := bs1.cell 0
    have e1 := bs1.cell 1
    have e2 := bs1.cell 2
    have e3 := bs1.cell 3
    have e4 := bs1.cell 4
    simp at e0 e1 e2 e3 e4
    go_wp2_with fail
    refine (Valid_any _ _).mono ?_
    rintro e w' ⟨rfl, rfl⟩
    rw [HT.out]
    go_wp2_with fail
    refine (HST.out _).mono ?_
    rintro e w2 ⟨rfl, rfl⟩
    have hB := bstep ((Below.refl _ w).alloc (Nat.le_refl _) (.cells #[.int .i64 k, .int .i64 z, .int .i64 p, .int .i64 g, .int .i64 h] 27)) (hB1.trans ((Below.refl _ w1).alloc hB1.size (.cells #[.int .i64 k, .int .i64 z, .int .i64 p, .int .i64 g, .int .i64 h] 27)))
    have bs2 := bs1.alloc (.cells #[.int .i64 k, .int .i64 z, .int .i64 p, .int .i64 g, .int .i64 h] 27)
    clear e0 e1 e2 e3 e4 bs1 hB1
    generalize w1.alloc (.cells #[.int .i64 k, .int .i64 z, .int .i64 p, .int .i64 g, .int .i64 h] 27) = W at hB bs2 ⊢
    have e1 := bs2.cell 1
    have e4 := bs2.cell 4
    simp at e1 e4
    have i1 := I1.out
    have i2 := I2.out
    have i3 := I3.out
    have i4 := I4.out
    have i5 := I5.out
    have i6 := I6.out
    go_wp2_with fail
    go_quiet ((go_at_call 42; exact Calls.quiet_of_same (HFL.out _)))
    clear i1 i2 i3 i4 i5 i6
    go_wp2
    go_ret2
    exact ⟨rfl, below_drewN hB _⟩

set_option maxRecDepth 100000 in
set_option maxHeartbeats 2000000 in
theorem RNext_ok (k z p g h t : Int) (hv : vspec k z p g h = true) (ht : vtime t = true) (hk : k = 1 ∨ k = 2) (w : World) :
    Calls Try.prog 16 #[.agg #[.int .i64 k, .int .i64 z, .int .i64 p, .int .i64 g, .int .i64 h], .int .i64 t] w (RetV w (.tuple #[.int .i64 (from0 z (stepOf k z p) h t + z), .int .i64 0])) := by
  have hs := stp_of k z p g h hv hk
  obtain ⟨ht1, ht2⟩ := vtime_bd ht
  have hev := fun W => every_any k z p g h W
  have hfi := fun W => first_any k z p g h (t - z) hs (by have := hs.bz; have := hs.z1; omega) (by have := hs.bz; have := hs.b1; omega) W
  have hd := (stepTests hk).2
  obtain ⟨b, hb⟩ : ∃ b, stepOf k z p = b := ⟨_, rfl⟩
  rw [hb] at hs ⊢
  simp only [hb, first_back] at hev hfi
  obtain ⟨f1, f2⟩ := from0_bd (t := t) hs
  obtain ⟨s1, s2, s3, s4, s5, s6⟩ := hs
  obtain ⟨a, ha⟩ : ∃ a, from0 z b h t = a := ⟨_, rfl⟩
  rw [ha] at f1 f2 ⊢
  simp only [ha] at hfi
  have HV := hide hv
  have HT := hide ht
  have HEV := hide hev
  have HFI := hide hfi
  have i1 : IntKind.i64.wrap (t - z) = t - z := IntWalk.i64_in _ (by omega)
  have i2 : IntKind.i64.wrap (a - b + z) = a - b + z := IntWalk.i64_in _ (by omega)
  have i3 : IntKind.i64.wrap (a - b + z + b) = a + z := by rw [IntWalk.i64_in _ (by omega)]; omega
  have I1 := hide i1
  have I2 := hide i2
  have I3 := hide i3
  clear hv ht hev hfi ha hb hk i1 i2 i3
  go_enter Try.func16, Try.ntmps16
  go_wp2_with fail
  refine (RValidSpec_any _ _ _ _ _ _).mono ?_
  rintro e w1 ⟨rfl, hB1⟩
  rw [HV.out]
  have bs1 := (Blk.new w 27 #[.int .i64 k, .int .i64 z, .int .i64 p, .int .i64 g, .int .i64 h]).below hB1 (by simp)
  have hl1 := bs1.lt
  have e0 := bs1.cell 0
  have e1 := bs1.cell 1
  have e2 := bs1.cell 2
  have e3 := bs1.cell 3
  have e4 := bs1.cell 4
  simp at e0 e1 e2 e3 e4
  go_wp2_with fail
  refine (RValid_any _ _).mono ?_
  rintro e w' ⟨rfl, rfl⟩
  rw [HT.out]
  go_wp2_with fail
  refine (stepped_any _ _ _ _ _ _).mono ?_
  rintro e w2 ⟨rfl, hB2⟩
  rw [hd]
  have bs2 := bs1.below hB2 hl1
  have hB := bstep (bstep ((Below.refl _ w).alloc (Nat.le_refl _) _) hB1) hB2
  clear e0 e1 e2 e3 e4 bs1 hB1 hB2 hl1
  have c0 := fun q : BW w2 => BW.cell (a := ⟨w.heap.size, 0, none⟩) bs2.lt (bs2.cell 0) q
  have c1 := fun q : BW w2 => BW.cell (a := ⟨w.heap.size, 1, none⟩) bs2.lt (bs2.cell 1) q
  have c2 := fun q : BW w2 => BW.cell (a := ⟨w.heap.size, 2, none⟩) bs2.lt (bs2.cell 2) q
  have c3 := fun q : BW w2 => BW.cell (a := ⟨w.heap.size, 3, none⟩) bs2.lt (bs2.cell 3) q
  have c4 := fun q : BW w2 => BW.cell (a := ⟨w.heap.size, 4, none⟩) bs2.lt (bs2.cell 4) q
  simp at c0 c1 c2 c3 c4
  have i1 := I1.out
  have i2 := I2.out
  have i3 := I3.out
  go_wp2_with fail
  (refine wp_region_quiet_bw (by kernel_rfl) (by kernel_rfl) ?_
   repeat (first | go_big_quiet_step ((first | (go_at_call 46; exact calls_bw (HEV.out _)) | (go_at_call 45; exact calls_bw (HFI.out _)))) | quiet_step ((first | (go_at_call 46; exact calls_bw (HEV.out _)) | (go_at_call 45; exact calls_bw (HFI.out _)))))
   refine wpQuiet_nil ?_
   intro _ hw'
   obtain ⟨⟨wq, hbq⟩, hw''⟩ := hw'
   subst hw'')
  clear i1 i2 i3
  go_wp2
  go_ret2
  exact ⟨rfl, bstep hB hbq⟩
end Go.Proofs.Ytehifbogadohgaa
