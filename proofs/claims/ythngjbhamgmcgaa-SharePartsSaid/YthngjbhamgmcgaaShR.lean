/-
  The walks of share.first, Range and of its reference, for every input.
-/
import Derived.Test.YthngjbhamgmcgaaShQ
namespace Go.Proofs.Ythngjbhamgmcgaa
open Go.RowKit Go.Shelf
attribute [local go_sem] Oper.semAt_some

/-- The least group of a part. -/
def fstN (i p G : Nat) : Nat := (i * G + p - 1) / p
def fstI (i p G : Int) : Int := (i * G + p - 1) / p
theorem fst_cast (i p G : Nat) (hp : 1 ≤ p) : fstI (i : Int) (p : Int) (G : Int) = ((fstN i p G : Nat) : Int) := by
  unfold fstI fstN
  rw [Int.natCast_ediv, Int.natCast_sub (by omega)]
  push_cast
  rfl
/-- A group is below the first of a part just if its own part is. -/
theorem lt_fst (k i p G : Nat) (hp : 1 ≤ p) (hG : 1 ≤ G) : k < fstN i p G ↔ k * p / G < i := by
  unfold fstN
  rw [Nat.div_lt_iff_lt_mul (by omega), Nat.lt_div_iff_mul_lt (by omega)]
  constructor
  · intro h; omega
  · intro h; omega
theorem fst_zero (p G : Nat) (hp : 1 ≤ p) : fstN 0 p G = 0 := by
  unfold fstN; rw [Nat.zero_mul]; exact Nat.div_eq_of_lt (by omega)
theorem fst_all (p G : Nat) (hp : 1 ≤ p) : fstN p p G = G := by
  unfold fstN
  rw [Nat.add_sub_assoc (by omega), Nat.mul_add_div (by omega), Nat.div_eq_of_lt (by omega)]
  omega
theorem fst_mono (i j p G : Nat) (h : i ≤ j) : fstN i p G ≤ fstN j p G := by
  unfold fstN
  exact Nat.div_le_div_right (by have := Nat.mul_le_mul_right G h; omega)
def rngE (i p G : Int) : Int × Int × Int := if rightB p G && decide (0 ≤ i ∧ i < p) then (fstI i p G, fstI (i + 1) p G, 0) else (0, 0, 7)

set_option maxHeartbeats 1000000 in
theorem first_any (i p G : Int) (h : 1 ≤ p ∧ p ≤ 16 ∧ 1 ≤ G ∧ G ≤ 128) (hi : 0 ≤ i ∧ i ≤ p) (w : World) : Calls Try.prog 48 #[.int .i64 i, .int .i64 p, .int .i64 G] w fun e w' => e = .returned (.int .i64 (fstI i p G)) ∧ w = w' := by
  have h1 : 0 ≤ i * G := Int.mul_nonneg hi.1 (by omega)
  have h2 : i * G ≤ 16 * 128 := Int.mul_le_mul (by omega) h.2.2.2 (by omega) (by omega)
  have h3 : 0 ≤ (i * G + p - 1) / p := Int.ediv_nonneg (by omega) (by omega)
  have h4 : (i * G + p - 1) / p ≤ 3000 := Int.le_trans (Int.ediv_le_self _ (by omega)) (by omega)
  go_enter Try.func48, Try.ntmps48
  go_wp2
  go_ret
  exact ⟨rfl, rfl⟩

set_option maxHeartbeats 1000000 in
theorem Range_any (i p G : Int) (w : World) : Calls Try.prog 17 #[.int .i64 i, .int .i64 p, .int .i64 G] w fun e w' => e = .returned (.tuple #[.int .i64 (rngE i p G).1, .int .i64 (rngE i p G).2.1, .int .i64 (rngE i p G).2.2]) ∧ w = w' := by
  unfold rngE
  by_cases h : rightB p G = true
  · have h0 := (rightB_iff p G).1 h
    by_cases h1 : 0 ≤ i
    · by_cases h2 : i < p
      · have hd : decide (0 ≤ i ∧ i < p) = true := by simp [h1, h2]
        simp only [h, hd, Bool.and_self, if_true]
        clear hd
        go_enter Try.func17, Try.ntmps17
        go_wp2_with (first | (go_at_call 41; refine (right_any _ _ _).mono ?_; rintro e w' ⟨rfl, rfl⟩) | (go_at_call 48; refine (first_any _ _ _ h0 (by omega) _).mono ?_; rintro e w' ⟨rfl, rfl⟩))
        go_ret3
        exact ⟨rfl, rfl⟩
      · have hd : decide (0 ≤ i ∧ i < p) = false := by simp [h2]
        simp only [h, hd, Bool.and_false]
        clear hd
        go_enter Try.func17, Try.ntmps17
        go_wp2_with (first | (go_at_call 41; refine (right_any _ _ _).mono ?_; rintro e w' ⟨rfl, rfl⟩))
        go_ret3
        exact ⟨rfl, rfl⟩
    · have hd : decide (0 ≤ i ∧ i < p) = false := by simp [h1]
      simp only [h, hd, Bool.and_false]
      clear hd
      go_enter Try.func17, Try.ntmps17
      go_wp2_with (first | (go_at_call 41; refine (right_any _ _ _).mono ?_; rintro e w' ⟨rfl, rfl⟩))
      go_ret3
      exact ⟨rfl, rfl⟩
  · have h' : rightB p G = false := by simpa using h
    clear h
    simp only [h', Bool.false_and]
    go_enter Try.func17, Try.ntmps17
    go_wp2_with (first | (go_at_call 41; refine (right_any _ _ _).mono ?_; rintro e w' ⟨rfl, rfl⟩))
    go_ret3
    exact ⟨rfl, rfl⟩

set_option maxRecDepth 100000 in
set_option maxHeartbeats 2000000 in
theorem RRange_yes (i p G : Nat) (hp1 : 1 ≤ p) (hp : p ≤ 16) (hG1 : 1 ≤ G) (hG : G ≤ 128) (hi : i < p) (w : World) : Calls Try.prog 18 #[.int .i64 (i : Int), .int .i64 (p : Int), .int .i64 (G : Int)] w fun e w' => e = .returned (.tuple #[.int .i64 ((fstN i p G : Nat) : Int), .int .i64 ((fstN (i + 1) p G : Nat) : Int), .int .i64 0]) ∧ w = w' := by
  have h : rightB (p : Int) (G : Int) = true := by rw [rightB_iff]; omega
  have l1 := fun k => lt_fst k i p G hp1 hG1
  have l2 := fun k => lt_fst k (i + 1) p G hp1 hG1
  have le1 : fstN i p G ≤ G := by have := fst_mono i p p G (by omega); rw [fst_all p G hp1] at this; exact this
  have le2 : fstN (i + 1) p G ≤ G := by have := fst_mono (i + 1) p p G (by omega); rw [fst_all p G hp1] at this; exact this
  have le3 : fstN i p G ≤ fstN (i + 1) p G := fst_mono i (i + 1) p G (by omega)
  obtain ⟨f, hf⟩ : ∃ f, fstN i p G = f := ⟨_, rfl⟩
  obtain ⟨t, ht⟩ : ∃ t, fstN (i + 1) p G = t := ⟨_, rfl⟩
  rw [hf] at l1 le1 le3 ⊢
  rw [ht] at l2 le2 le3 ⊢
  clear hf ht
  have L1 := hide l1
  have L2 := hide l2
  clear l1 l2
  go_enter Try.func18, Try.ntmps18
  go_wp2_with (first | (go_at_call 43; refine (numbers_any _ _ _).mono ?_; rintro e w' ⟨rfl, rfl⟩))
  go_loop [6] (fun v => ∃ k : Nat, k ≤ f ∧ v = .int .i64 k) (fun v => f - (intOf v).toNat)
  case atStart => exact ⟨0, Nat.zero_le _, rfl⟩
  case round =>
    obtain ⟨k, hk, rfl⟩ := hrel
    by_cases hlt : k < f
    · obtain ⟨hd1, hd2⟩ := div_part k p G (by omega) hG hp
      have hd3 : (k : Int) * p ≤ 2048 := by rw [← Int.natCast_mul]; omega
      have hd4 : 0 ≤ (k : Int) * p := by rw [← Int.natCast_mul]; omega
      have hc : (k : Int) * p / G < i := by have := (L1.out k).1 hlt; exact_mod_cast this
      have hkG : k < G := by omega
      go_wp2
      go_round
      case rel => exact ⟨k + 1, by omega, by go_num⟩
      case measure => simp [intOf]; omega
    · obtain rfl : k = f := by omega
      rcases Nat.lt_or_ge k G with hkG | hkG
      · obtain ⟨hd1, hd2⟩ := div_part k p G (by omega) hG hp
        have hd3 : (k : Int) * p ≤ 2048 := by rw [← Int.natCast_mul]; omega
        have hd4 : 0 ≤ (k : Int) * p := by rw [← Int.natCast_mul]; omega
        have hc : ¬ (k : Int) * p / G < i := by
          intro h
          exact hlt ((L1.out k).2 (by exact_mod_cast h))
        go_wp2
        go_loop [7] (fun v => ∃ j : Nat, k ≤ j ∧ j ≤ t ∧ v = .int .i64 j) (fun v => t - (intOf v).toNat)
        case atStart => exact ⟨k, Nat.le_refl _, le3, rfl⟩
        case round =>
          obtain ⟨j, hkj, hj, rfl⟩ := hrel
          by_cases hlt2 : j < t
          · obtain ⟨hd1, hd2⟩ := div_part j p G (by omega) hG hp
            have hd3 : (j : Int) * p ≤ 2048 := by rw [← Int.natCast_mul]; omega
            have hd4 : 0 ≤ (j : Int) * p := by rw [← Int.natCast_mul]; omega
            have hc2 : (j : Int) * p / G = i := by
              have h1 := (L2.out j).1 hlt2
              have h2 : ¬ j * p / G < i := fun h => by have := (L1.out j).2 h; omega
              have : j * p / G = i := by omega
              exact_mod_cast this
            have hjG : j < G := by omega
            go_wp2
            go_round
            case rel => exact ⟨j + 1, by omega, by omega, by go_num⟩
            case measure => simp [intOf]; omega
          · obtain rfl : j = t := by omega
            rcases Nat.lt_or_ge j G with hjG | hjG
            · obtain ⟨hd1, hd2⟩ := div_part j p G (by omega) hG hp
              have hd3 : (j : Int) * p ≤ 2048 := by rw [← Int.natCast_mul]; omega
              have hd4 : 0 ≤ (j : Int) * p := by rw [← Int.natCast_mul]; omega
              have hc2 : ¬ (j : Int) * p / G = i := by
                intro e
                have e' : j * p / G = i := by exact_mod_cast e
                exact hlt2 ((L2.out j).2 (by omega))
              go_wp2
              go_ret3
              exact ⟨rfl, rfl⟩
            · go_wp2
              go_ret3
              exact ⟨rfl, rfl⟩
      · go_wp2
        go_loop [7] (fun v => ∃ j : Nat, k ≤ j ∧ j ≤ t ∧ v = .int .i64 j) (fun v => t - (intOf v).toNat)
        case atStart => exact ⟨k, Nat.le_refl _, le3, rfl⟩
        case round =>
          obtain ⟨j, hkj, hj, rfl⟩ := hrel
          obtain rfl : j = t := by omega
          go_wp2
          go_ret3
          exact ⟨rfl, rfl⟩
end Go.Proofs.Ythngjbhamgmcgaa
