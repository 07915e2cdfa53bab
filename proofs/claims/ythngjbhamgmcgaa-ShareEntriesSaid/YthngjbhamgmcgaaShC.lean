/-
  The walks of tidewrightref12's In, numbers and Moves, for every input.
-/
import Derived.Test.YthngjbhamgmcgaaShB
import Derived.Test.YthngjbhamgmcgaaSameInts
namespace Go.Proofs.Ythngjbhamgmcgaa
open Go.RowKit

theorem In_any (a m : Int) (w : World) : Calls Try.prog 44 #[.int .i64 a, .int .i64 m] w fun e w' => e = .returned (.bool (decide (1 ≤ a ∧ a ≤ m))) ∧ w = w' := by
  by_cases h1 : 1 ≤ a
  · go_enter Try.func44, Try.ntmps44
    go_wp2
    go_ret
    exact ⟨ret_bool (by simp [*]), rfl⟩
  · go_enter Try.func44, Try.ntmps44
    go_wp2
    go_ret
    exact ⟨ret_bool (by simp [*] <;> omega), rfl⟩

theorem numbers_any (p g : Int) (w : World) : Calls Try.prog 43 #[.int .i64 p, .int .i64 g] w fun e w' => e = .returned (.bool (rightB p g)) ∧ w = w' := by
  by_cases h1 : 1 ≤ p ∧ p ≤ 16
  · have hd : decide (1 ≤ p ∧ p ≤ 16) = true := by simp [h1]
    go_enter Try.func43, Try.ntmps43
    go_wp2_with (go_at_call 44; refine (In_any _ _ _).mono ?_; rintro e w' ⟨rfl, rfl⟩)
    go_ret
    exact ⟨ret_bool (by simp [rightB, h1]), rfl⟩
  · have hd : decide (1 ≤ p ∧ p ≤ 16) = false := by simp [h1]
    go_enter Try.func43, Try.ntmps43
    go_wp2_with (go_at_call 44; refine (In_any _ _ _).mono ?_; rintro e w' ⟨rfl, rfl⟩)
    go_ret
    exact ⟨ret_bool (by simp [rightB]; omega), rfl⟩

set_option maxRecDepth 100000 in
set_option maxHeartbeats 2000000 in
theorem RMoves_yes (g p q : Nat) (hg1 : 1 ≤ g) (hg : g ≤ 128) (hp1 : 1 ≤ p) (hp : p ≤ 16) (hq1 : 1 ≤ q) (hq : q ≤ 16) (w : World) :
    Calls Try.prog 10 #[.int .i64 (g : Int), .int .i64 (p : Int), .int .i64 (q : Int)] w (RetSlE w 3 (mvs g p q).length ((mvs g p q).flatMap encM) 0) := by
  obtain ⟨i0, hi, hz0, hz1, hz2⟩ := info_parts Try.infoMove
  have hr : rightB p g = true := by simp [rightB]; omega
  have hr2 : decide (1 ≤ (q : Int) ∧ (q : Int) ≤ 16) = true := by simp; omega
  go_enter Try.func10, Try.ntmps10
  go_wp2_with (first | (go_at_call 43; refine (numbers_any _ _ _).mono ?_; rintro e w' ⟨rfl, rfl⟩) | (go_at_call 44; refine (In_any _ _ _).mono ?_; rintro e w' ⟨rfl, rfl⟩))
  go_loopw [8, 9] (fun v i wr => ∃ k : Nat, k ≤ g ∧ i = .int .i64 k ∧ wr.ownsRow w.heap.size 28 3 v (mvF g p q (List.range k)).length ((mvF g p q (List.range k)).flatMap encM) ∧ Below w.heap.size w wr) (fun _ i _ => g - (intOf i).toNat)
  case atStart => exact ⟨0, Nat.zero_le _, rfl, World.ownsRow_nil _ _ _ _, Below.refl _ _⟩
  case round =>
    obtain ⟨k, hk, rfl, hrow, hB⟩ := hrel
    by_cases hlt : k < g
    · obtain ⟨hd1, hd2⟩ := div_part k p g hlt hg hp
      have hd3 : (k : Int) * p ≤ 2048 := by rw [← Int.natCast_mul]; omega
      have hd4 : 0 ≤ (k : Int) * p := by rw [← Int.natCast_mul]; omega
      obtain ⟨he1, he2⟩ := div_part k q g hlt hg hq
      have he3 : (k : Int) * q ≤ 2048 := by rw [← Int.natCast_mul]; omega
      have he4 : 0 ≤ (k : Int) * q := by rw [← Int.natCast_mul]; omega
      have hml := mvF_len g p q (List.range k)
      rw [List.length_range] at hml
      have hWs := hB.size
      go_wp2
      go_quiet (fail)
      have hrow2 : (wr.drewN nq).ownsRow w.heap.size 28 3 u8 (mvF g p q (List.range k)).length ((mvF g p q (List.range k)).flatMap encM) := hrow
      have hB2 := below_drewN hB nq
      generalize wr.drewN nq = wq at hrow2 hB2 ⊢
      clear hrow hB hWs
      have hWs := hB2.size
      go_wp2_with (at_builtin; refine wpList_append_own _ rfl _ _ 23 rfl w.heap.size 28 i0 _ 3 24 Try.underlying23 hi hz0 hz1 hz2 rfl (by decide) _ _ _ rfl (hrow2.alloc _) ⟨wq.heap.size, 0, none⟩ 1 1 [.int .i64 (k : Int), .int .i64 ((k : Int) * p / g), .int .i64 ((k : Int) * q / g)] rfl rfl (cells_new _ _ _) (by simp [Value.oneCell']) (by unfold maxLen; omega) (by omega) (by simp; omega) ?_; intro v' w1 hown' hgrow _)
      · have ht : ((k : Int) * p / g != (k : Int) * q / g) = true := by assumption
        have hne : k * q / g ≠ k * p / g := by
          intro e; apply bne_iff_ne.1 ht; exact_mod_cast e.symm
        have e1 : mvF g p q (List.range (k + 1)) = mvF g p q (List.range k) ++ [(k, k * p / g, k * q / g)] := by rw [List.range_succ]; exact mvF_hit g p q _ k hne
        go_roundw
        case rel => exact ⟨k + 1, by omega, by go_num, by rw [e1]; simpa [encM] using hown', below_append (hB2.alloc hWs _) (hrow2.alloc _) (by simp; omega) hgrow⟩
        case measure => simp [intOf]; omega
      · have ht : ((k : Int) * p / g != (k : Int) * q / g) = false := by assumption
        have he : k * q / g = k * p / g := by
          have := bne_eq_false_iff_eq.1 ht; exact_mod_cast this.symm
        have e1 : mvF g p q (List.range (k + 1)) = mvF g p q (List.range k) := by rw [List.range_succ]; exact mvF_miss g p q _ k he
        go_roundw
        case rel => exact ⟨k + 1, by omega, by go_num, by rw [e1]; exact hrow2, hB2⟩
        case measure => simp [intOf]; omega
    · obtain rfl : k = g := by omega
      obtain ⟨A, c, rfl, hR⟩ := own_form hrow
      go_wp2
      go_ret2
      exact ⟨A, c, rfl, hR, hB⟩
end Go.Proofs.Ythngjbhamgmcgaa
