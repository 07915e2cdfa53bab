/-
  The walks of share.Owners where the numbers are out of range, of tidewrightref12.Owners and Range, for every input.
-/
import Derived.Test.YthngjbhamgmcgaaShR
namespace Go.Proofs.Ythngjbhamgmcgaa
open Go.RowKit Go.Shelf
attribute [local go_sem] Oper.semAt_some

set_option maxHeartbeats 1000000 in
theorem RRange_any (i p G : Int) (w : World) : Calls Try.prog 18 #[.int .i64 i, .int .i64 p, .int .i64 G] w fun e w' => e = .returned (.tuple #[.int .i64 (rngE i p G).1, .int .i64 (rngE i p G).2.1, .int .i64 (rngE i p G).2.2]) ∧ w = w' := by
  unfold rngE
  by_cases h : rightB p G = true
  · have h0 := (rightB_iff p G).1 h
    by_cases h1 : 0 ≤ i
    · by_cases h2 : i < p
      · have hd : decide (0 ≤ i ∧ i < p) = true := by simp [h1, h2]
        simp only [h, hd, Bool.and_self, if_true]
        clear hd h
        obtain ⟨I, rfl⟩ := Int.eq_ofNat_of_zero_le h1
        obtain ⟨P, rfl⟩ := Int.eq_ofNat_of_zero_le (show 0 ≤ p by omega)
        obtain ⟨g, rfl⟩ := Int.eq_ofNat_of_zero_le (show 0 ≤ G by omega)
        rw [fst_cast I P g (by omega), show ((I : Int) + 1) = ((I + 1 : Nat) : Int) from rfl, fst_cast (I + 1) P g (by omega)]
        exact RRange_yes I P g (by omega) (by omega) (by omega) (by omega) (by omega) w
      · have hd : decide (0 ≤ i ∧ i < p) = false := by simp [h2]
        simp only [h, hd, Bool.and_false]
        clear hd
        go_enter Try.func18, Try.ntmps18
        go_wp2_with (first | (go_at_call 43; refine (numbers_any _ _ _).mono ?_; rintro e w' ⟨rfl, rfl⟩))
        go_ret3
        exact ⟨rfl, rfl⟩
    · have hd : decide (0 ≤ i ∧ i < p) = false := by simp [h1]
      simp only [h, hd, Bool.and_false]
      clear hd
      go_enter Try.func18, Try.ntmps18
      go_wp2_with (first | (go_at_call 43; refine (numbers_any _ _ _).mono ?_; rintro e w' ⟨rfl, rfl⟩))
      go_ret3
      exact ⟨rfl, rfl⟩
  · have h' : rightB p G = false := by simpa using h
    clear h
    simp only [h', Bool.false_and]
    go_enter Try.func18, Try.ntmps18
    go_wp2_with (first | (go_at_call 43; refine (numbers_any _ _ _).mono ?_; rintro e w' ⟨rfl, rfl⟩))
    go_ret3
    exact ⟨rfl, rfl⟩

theorem Owners_no (g p : Int) (h : rightB p g = false) (w : World) :
    Calls Try.prog 19 #[.int .i64 g, .int .i64 p] w (RetSlE w 1 0 [] 7) := by
  go_enter Try.func19, Try.ntmps19
  go_wp2_with (go_at_call 41; refine (right_any _ _ _).mono ?_; rintro e w' ⟨rfl, rfl⟩)
  go_ret2
  exact ⟨none, 0, rfl, Reads.none_, by go_grown⟩
theorem ROwners_no (g p : Int) (h : rightB p g = false) (w : World) :
    Calls Try.prog 20 #[.int .i64 g, .int .i64 p] w (RetSlE w 1 0 [] 7) := by
  go_enter Try.func20, Try.ntmps20
  go_wp2_with (go_at_call 43; refine (numbers_any _ _ _).mono ?_; rintro e w' ⟨rfl, rfl⟩)
  go_ret2
  exact ⟨none, 0, rfl, Reads.none_, by go_grown⟩

set_option maxRecDepth 100000 in
set_option maxHeartbeats 2000000 in
theorem ROwners_yes (g p : Nat) (hg1 : 1 ≤ g) (hg : g ≤ 128) (hp1 : 1 ≤ p) (hp : p ≤ 16) (w : World) :
    Calls Try.prog 20 #[.int .i64 (g : Int), .int .i64 (p : Int)] w (RetSlE w 1 (owns g p).length ((owns g p).map (Value.int .i64)) 0) := by
  obtain ⟨i0, hi, hz0, hz1, hz2⟩ := info_parts Try.infoInt
  have hr : rightB p g = true := by simp [rightB]; omega
  go_enter Try.func20, Try.ntmps20
  go_wp2_with (first | (go_at_call 43; refine (numbers_any _ _ _).mono ?_; rintro e w' ⟨rfl, rfl⟩))
  go_loopw [6, 7] (fun v i wr => ∃ k : Nat, k ≤ g ∧ i = .int .i64 k ∧ wr.ownsRow w.heap.size 3 1 v (ownF g p (List.range k)).length ((ownF g p (List.range k)).map (Value.int .i64)) ∧ Below w.heap.size w wr) (fun _ i _ => g - (intOf i).toNat)
  case atStart => exact ⟨0, Nat.zero_le _, rfl, World.ownsRow_nil _ _ _ _, Below.refl _ _⟩
  case round =>
    obtain ⟨k, hk, rfl, hrow, hB⟩ := hrel
    by_cases hlt : k < g
    · obtain ⟨hd1, hd2⟩ := div_part k p g hlt hg hp
      have hd3 : (k : Int) * p ≤ 2048 := by rw [← Int.natCast_mul]; omega
      have hd4 : 0 ≤ (k : Int) * p := by rw [← Int.natCast_mul]; omega
      have hml := ownF_len g p (List.range k)
      rw [List.length_range] at hml
      have hWs := hB.size
      have HL := hide hml
      have HSn := hide (ownF_snoc g p (List.range k) k)
      go_wp2_with (at_builtin; refine wpList_append_own _ rfl _ _ 36 rfl w.heap.size 3 i0 _ 1 8 Try.underlying36 hi hz0 hz1 hz2 rfl (by decide) _ _ _ rfl (hrow.alloc _) ⟨wr.heap.size, 0, none⟩ 1 1 [.int .i64 ((k : Int) * p / g)] rfl rfl (cells_new _ _ _) (by simp [Value.oneCell']) (by rw [HL.out]; unfold maxLen; omega) (by omega) (by simp; omega) ?_; intro v' w1 hown' hgrow _)
      go_roundw
      case rel => exact ⟨k + 1, by omega, by go_num, by rw [List.range_succ, HSn.out]; simpa [own1] using hown', below_append (hB.alloc hWs _) (hrow.alloc _) (by simp; omega) hgrow⟩
      case measure => simp [intOf]; omega
    · obtain rfl : k = g := by omega
      obtain ⟨A, c, rfl, hR⟩ := own_form hrow
      go_wp2
      go_ret2
      exact ⟨A, c, rfl, hR, hB⟩
end Go.Proofs.Ythngjbhamgmcgaa
