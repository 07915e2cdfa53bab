/-
  The walk of clock.Between, for every valid stepped spec and range.
-/
import Derived.Test.YtehifbogadohgaaCkNext
namespace Go.Proofs.Ytehifbogadohgaa
open Go.RowKit Go.Shelf

/-- What Between hands back where its numbers are right: the windows, or the error that they are too many. -/
def betL (a b z : Int) (c : Nat) : List (Int × Int) × Int := if c ≤ 400 then (winsFrom a b z c, 0) else ([], 4)
theorem betL_ok (a b z : Int) {c : Nat} (h : c ≤ 400) : betL a b z c = (winsFrom a b z c, 0) := by simp [betL, h]
theorem betL_no (a b z : Int) {c : Nat} (h : 400 < c) : betL a b z c = ([], 4) := by unfold betL; rw [if_neg (by omega)]

set_option maxRecDepth 100000 in
set_option maxHeartbeats 4000000 in
theorem Between_ok (k z p g h f t : Int) (hv : vspec k z p g h = true) (hf : vtime f = true) (ht : vtime t = true) (hle : f ≤ t) (hk : k = 1 ∨ k = 2) (w : World) :
    Calls Try.prog 13 #[.agg #[.int .i64 k, .int .i64 z, .int .i64 p, .int .i64 g, .int .i64 h], .int .i64 f, .int .i64 t] w
      (RetSlE w 2 (betL (from0 z (stepOf k z p) h f) (stepOf k z p) z (count (from0 z (stepOf k z p) h f) (stepOf k z p) t)).1.length (flatW (betL (from0 z (stepOf k z p) h f) (stepOf k z p) z (count (from0 z (stepOf k z p) h f) (stepOf k z p) t)).1) (betL (from0 z (stepOf k z p) h f) (stepOf k z p) z (count (from0 z (stepOf k z p) h f) (stepOf k z p) t)).2) := by
  obtain ⟨i0, hi, hz0, hz1, hz2⟩ := info_parts Try.infoWin
  have hs := stp_of k z p g h hv hk
  obtain ⟨hf1, hf2⟩ := vtime_bd hf
  obtain ⟨ht1, ht2⟩ := vtime_bd ht
  have hst := fun W => step_any k z p g h W
  obtain ⟨b, hb⟩ : ∃ b, stepOf k z p = b := ⟨_, rfl⟩
  rw [hb] at hs ⊢
  simp only [hb] at hst
  obtain ⟨f1, f2⟩ := from0_bd (t := f) hs
  have ef : from0 z b h f = ((f - z - h) / b + 1) * b + h := rfl
  have hcb := fun i => count_bd (b := b) (a := from0 z b h f) (t := t) hs.b1 (by have := hs.bz; omega) i
  obtain ⟨s1, s2, s3, s4, s5, s6⟩ := hs
  obtain ⟨a, ha⟩ : ∃ a, from0 z b h f = a := ⟨_, rfl⟩
  rw [ha] at f1 f2 ef ⊢
  simp only [ha] at hcb
  obtain ⟨c, hc⟩ : ∃ c, count a b t = c := ⟨_, rfl⟩
  rw [hc]
  simp only [hc] at hcb
  have hbo := fun h => betL_ok a b z (c := c) h
  have hbn := fun h => betL_no a b z (c := c) h
  obtain ⟨LE, hLE⟩ : ∃ LE, betL a b z c = LE := ⟨_, rfl⟩
  rw [hLE]
  simp only [hLE] at hbo hbn
  have HBO := hide hbo
  have HBN := hide hbn
  have HCB := hide hcb
  clear hbo hbn hLE hcb hc
  have hq1 : (f - z - h) / b * b = a - b - h := by rw [ef, Int.add_mul]; omega
  have hq3 : -3000000000000 ≤ (f - z - h) / b := (Int.le_ediv_iff_mul_le (by omega)).2 (by omega)
  have hq4 : (f - z - h) / b ≤ 3000000000000 := (Int.ediv_le_iff_le_mul (by omega)).2 (by omega)
  have hfl : ∀ W : World, Calls Try.prog 42 #[.int .i64 (f - z - h), .int .i64 b] W fun e w' => e = .returned (.int .i64 ((f - z - h) / b)) ∧ w' = W := fun W =>
    (floor_any _ _ (by omega) (by omega) (by omega) W).mono fun _ _ ⟨he, hw⟩ => ⟨he, hw.symm⟩
  obtain ⟨q, hq⟩ : ∃ q, (f - z - h) / b = q := ⟨_, rfl⟩
  rw [hq] at hq1 hq3 hq4
  simp only [hq] at hfl
  have HV := hide hv
  have HF := hide hf
  have HT := hide ht
  have HST := hide hst
  have HFL := hide hfl
  have i1 : IntKind.i64.wrap (f - z) = f - z := IntWalk.i64_in _ (by omega)
  have i2 : IntKind.i64.wrap (f - z - h) = f - z - h := IntWalk.i64_in _ (by omega)
  have i3 : IntKind.i64.wrap (q + 1) = q + 1 := IntWalk.i64_in _ (by omega)
  have i4 : IntKind.i64.wrap ((q + 1) * b) = a - h := by rw [Int.add_mul, hq1, IntWalk.i64_in _ (by omega)]; omega
  have i5 : IntKind.i64.wrap (a - h + h) = a := by rw [IntWalk.i64_in _ (by omega)]; omega
  have I1 := hide i1
  have I2 := hide i2
  have I3 := hide i3
  have I4 := hide i4
  have I5 := hide i5
  clear hv hf ht hst hfl hq hq1 ef ha hb i1 i2 i3 i4 i5
  have hkk : ((k == 1) = true ∧ (k != 1) = false) ∨ ((k == 1) = false ∧ (k != 1) = true ∧ (k != 2) = false) := by
    rcases hk with rfl | rfl <;> decide
  clear hk
  have hle' : ¬ t < f := by omega
  rcases hkk with ⟨hk1, hk2⟩ | ⟨hk1, hk2, hk3⟩
  all_goals
    go_enter Try.func13, Try.ntmps13
    go_wp2_with fail
    refine (ValidSpec_any _ _ _ _ _ _).mono ?_
    rintro e w1 ⟨rfl, hB1⟩
    rw [HV.out]
    have bs1 := (Blk.new w 27 #[.int .i64 k, .int .i64 z, .int .i64 p, .int .i64 g, .int .i64 h]).below hB1 (by simp)
    have e0 := bs1.cell 0
    have e1 := bs1.cell 1
    have e2 := bs1.cell 2
    have e3 := bs1.cell 3
    have e4 := bs1.cell 4
    simp at e0 e1 e2 e3 e4
    go_wp2_with fail
    refine (Valid_any _ _).mono ?_
    rintro e w' ⟨rfl, rfl⟩
    rw [HF.out]
    go_wp2_with fail
    refine (Valid_any _ _).mono ?_
    rintro e w' ⟨rfl, rfl⟩
    rw [HT.out]
    go_wp2_with fail
    refine (HST.out _).mono ?_
    rintro e w2 ⟨rfl, rfl⟩
    have hB := bstep ((Below.refl _ w).alloc (Nat.le_refl _) (.cells #[.int .i64 k, .int .i64 z, .int .i64 p, .int .i64 g, .int .i64 h] 27)) (hB1.trans ((Below.refl _ w1).alloc hB1.size (.cells #[.int .i64 k, .int .i64 z, .int .i64 p, .int .i64 g, .int .i64 h] 27)))
    have bs2 := bs1.alloc (.cells #[.int .i64 k, .int .i64 z, .int .i64 p, .int .i64 g, .int .i64 h] 27)
    clear e0 e1 e2 e3 e4 bs1 hB1
    generalize w1.alloc (.cells #[.int .i64 k, .int .i64 z, .int .i64 p, .int .i64 g, .int .i64 h] 27) = W at hB bs2 ⊢
    have e1 := bs2.cell 1
    have e4 := bs2.cell 4
    simp at e1 e4
    have i1 := I1.out
    have i2 := I2.out
    have i3 := I3.out
    have i4 := I4.out
    have i5 := I5.out
    go_wp2_with fail
    go_quiet ((go_at_call 42; exact Calls.quiet_of_same (HFL.out _)))
    clear i1 i2 i3 i4 i5 e1 e4
    have hB2 := below_drewN hB nq
    have bs3 : Blk (W.drewN nq) w.heap.size 27 #[.int .i64 k, .int .i64 z, .int .i64 p, .int .i64 g, .int .i64 h] := bs2
    generalize W.drewN nq = W2 at hB2 bs3 ⊢
    clear hB bs2
    have hl3 := bs3.lt
    go_wp2_with fail
    go_loopw [8, 10] (fun v i wr => ∃ (m : Nat) (A : Option Addr) (cc : Nat), m ≤ c ∧ m ≤ 400 ∧ i = .int .i64 (a + (m : Int) * b) ∧ v = .slice A m cc ∧ wr.ownsRow W2.heap.size 35 2 v m (flatW (winsFrom a b z m)) ∧ Below W2.heap.size W2 wr) (fun _ i _ => (t + 1 - intOf i).toNat)
    case atStart => exact ⟨0, none, 0, Nat.zero_le _, by omega, by simp, rfl, World.ownsRow_nil _ _ _ _, Below.refl _ _⟩
    case round =>
      obtain ⟨m, A, cc, hm, hm4, rfl, rfl, hrow, hBr⟩ := hrel
      have hWs := hBr.size
      have e1 := (bs3.below hBr hl3).cell 1
      simp at e1
      have hmb : 0 ≤ (m : Int) * b := Int.mul_nonneg (by omega) (by omega)
      have HCM := hide (HCB.out m)
      have HX1 : Hid (a + (m : Int) * b + b = a + ((m + 1 : Nat) : Int) * b) := hide (by rw [Int.natCast_add, Int.add_mul]; omega)
      have HSN := hide (winsFrom_snoc a b z m)
      obtain ⟨x, hx⟩ : ∃ x, a + (m : Int) * b = x := ⟨_, rfl⟩
      rw [hx] at HX1 HCM ⊢
      simp only [hx] at HSN
      have hxa : a ≤ x := by omega
      clear hx hmb
      by_cases hlt : m < c
      · have hle := HCM.out.1 hlt
        by_cases h400 : m = 400
        · subst h400
          have HE := hide (HBN.out hlt)
          go_wp2
          go_ret2
          rw [HE.out]
          exact ⟨none, 0, rfl, Reads.none_, hB2.trans (hBr.mono hB2.size)⟩
        · have h400' : ((m : Int) == 400) = false := by simp; omega
          have hm5 : m < 400 := by omega
          clear h400
          go_wp2_with (at_builtin; refine wpList_append_own _ rfl _ _ 22 rfl W2.heap.size 35 i0 _ 2 16 Try.underlying22 hi hz0 hz1 hz2 rfl (by decide) _ _ _ rfl (hrow.alloc _) ⟨wr.heap.size, 0, none⟩ 1 1 [.int .i64 x, .int .i64 (x + z)] rfl rfl (cells_new _ _ _) (by simp [Value.oneCell']) (by unfold maxLen; omega) (by omega) (by simp; omega) ?_; intro v' w2 hown' hgrow _; obtain ⟨g', cap', rfl⟩ := ownsRow_succ hown')
          go_roundw
          case rel => exact ⟨m + 1, _, cap', by omega, by omega, by rw [← HX1.out], rfl, by rw [HSN.out, flatW_snoc]; exact hown', below_append (hBr.alloc hWs _) (hrow.alloc _) (by simp; omega) hgrow⟩
          case measure => simp [intOf]; omega
      · have hgt : t < x := by
          have := mt HCM.out.2 hlt; omega
        obtain rfl : m = c := by omega
        have HE := hide (HBO.out hm4)
        have hR := Reads.of_own hrow
        go_wp2
        go_ret2
        rw [HE.out]
        exact ⟨A, cc, by rw [winsFrom_length]; rfl, by rw [winsFrom_length]; exact hR, hB2.trans (hBr.mono hB2.size)⟩
end Go.Proofs.Ytehifbogadohgaa
