/-
  The law ClockBetween: the walk, for every input.
-/
import Derived.Test.YtehifbogadohgaaCkRBet
namespace Go.Proofs.Ytehifbogadohgaa
open Go.RowKit Go.Shelf

def betE (k z p g h f t : Int) : List (Int × Int) × Int :=
  if vspec k z p g h then (if (vtime f && (vtime t && decide (f ≤ t))) then (if notStep k then ([], 11) else betL (from0 z (stepOf k z p) h f) (stepOf k z p) z (count (from0 z (stepOf k z p) h f) (stepOf k z p) t)) else ([], 7)) else ([], 1)
def nextE (k z p g h t : Int) : Int × Int :=
  if vspec k z p g h then (if vtime t then (if notStep k then (0, 11) else (from0 z (stepOf k z p) h t + z, 0)) else (0, 7)) else (0, 1)

theorem Between_any (k z p g h f t : Int) (w : World) : Calls Try.prog 13 #[.agg #[.int .i64 k, .int .i64 z, .int .i64 p, .int .i64 g, .int .i64 h], .int .i64 f, .int .i64 t] w (RetSlE w 2 (betE k z p g h f t).1.length (flatW (betE k z p g h f t).1) (betE k z p g h f t).2) := by
  unfold betE
  by_cases hv : vspec k z p g h = true
  · rw [if_pos hv]
    by_cases hft : (vtime f && (vtime t && decide (f ≤ t))) = true
    · rw [if_pos hft]
      simp only [Bool.and_eq_true, decide_eq_true_eq] at hft
      by_cases hk : notStep k = true
      · rw [if_pos hk]; exact Between_e11 k z p g h f t hv hft.1 hft.2.1 hft.2.2 hk w
      · rw [if_neg hk]; exact Between_ok k z p g h f t hv hft.1 hft.2.1 hft.2.2 (isStep hv (by simpa using hk)) w
    · rw [if_neg hft]; exact Between_e7 k z p g h f t hv (by simpa using hft) w
  · rw [if_neg hv]; exact Between_e1 k z p g h f t (by simpa using hv) w
theorem RBetween_any (k z p g h f t : Int) (w : World) : Calls Try.prog 14 #[.agg #[.int .i64 k, .int .i64 z, .int .i64 p, .int .i64 g, .int .i64 h], .int .i64 f, .int .i64 t] w (RetSlE w 2 (betE k z p g h f t).1.length (flatW (betE k z p g h f t).1) (betE k z p g h f t).2) := by
  unfold betE
  by_cases hv : vspec k z p g h = true
  · rw [if_pos hv]
    by_cases hft : (vtime f && (vtime t && decide (f ≤ t))) = true
    · rw [if_pos hft]
      simp only [Bool.and_eq_true, decide_eq_true_eq] at hft
      by_cases hk : notStep k = true
      · rw [if_pos hk]; exact RBetween_e11 k z p g h f t hv hft.1 hft.2.1 hft.2.2 hk w
      · rw [if_neg hk]; exact RBetween_ok k z p g h f t hv hft.1 hft.2.1 hft.2.2 (isStep hv (by simpa using hk)) w
    · rw [if_neg hft]; exact RBetween_e7 k z p g h f t hv (by simpa using hft) w
  · rw [if_neg hv]; exact RBetween_e1 k z p g h f t (by simpa using hv) w
theorem Next_any (k z p g h t : Int) (w : World) : Calls Try.prog 15 #[.agg #[.int .i64 k, .int .i64 z, .int .i64 p, .int .i64 g, .int .i64 h], .int .i64 t] w (RetV w (.tuple #[.int .i64 (nextE k z p g h t).1, .int .i64 (nextE k z p g h t).2])) := by
  unfold nextE
  by_cases hv : vspec k z p g h = true
  · rw [if_pos hv]
    by_cases ht : vtime t = true
    · rw [if_pos ht]
      by_cases hk : notStep k = true
      · rw [if_pos hk]; exact Next_e11 k z p g h t hv ht hk w
      · rw [if_neg hk]; exact Next_ok k z p g h t hv ht (isStep hv (by simpa using hk)) w
    · rw [if_neg ht]; exact Next_e7 k z p g h t hv (by simpa using ht) w
  · rw [if_neg hv]; exact Next_e1 k z p g h t (by simpa using hv) w
theorem RNext_any (k z p g h t : Int) (w : World) : Calls Try.prog 16 #[.agg #[.int .i64 k, .int .i64 z, .int .i64 p, .int .i64 g, .int .i64 h], .int .i64 t] w (RetV w (.tuple #[.int .i64 (nextE k z p g h t).1, .int .i64 (nextE k z p g h t).2])) := by
  unfold nextE
  by_cases hv : vspec k z p g h = true
  · rw [if_pos hv]
    by_cases ht : vtime t = true
    · rw [if_pos ht]
      by_cases hk : notStep k = true
      · rw [if_pos hk]; exact RNext_e11 k z p g h t hv ht hk w
      · rw [if_neg hk]; exact RNext_ok k z p g h t hv ht (isStep hv (by simpa using hk)) w
    · rw [if_neg ht]; exact RNext_e7 k z p g h t hv (by simpa using ht) w
  · rw [if_neg hv]; exact RNext_e1 k z p g h t (by simpa using hv) w

theorem betE_len (k z p g h f t : Int) : (betE k z p g h f t).1.length ≤ 400 := by
  unfold betE betL
  repeat' split
  all_goals simp_all [winsFrom_length]

set_option maxRecDepth 100000 in
set_option maxHeartbeats 4000000 in
theorem between_law (k z p g h f t u : Int) (w : World) :
    Calls Try.prog 4 #[.agg #[.int .i64 k, .int .i64 z, .int .i64 p, .int .i64 g, .int .i64 h], .int .i64 f, .int .i64 t, .int .i64 u] w (RetV w (.bool true)) := by
  have cA := fun W => Between_any k z p g h f t W
  have cB := fun W => RBetween_any k z p g h f t W
  have hl := betE_len k z p g h f t
  obtain ⟨L, E, hLE⟩ : ∃ L E, betE k z p g h f t = (L, E) := ⟨_, _, rfl⟩
  rw [hLE] at cA cB hl
  dsimp only at cA cB hl
  obtain ⟨n, hn⟩ : ∃ n, L.length = n := ⟨_, rfl⟩
  rw [hn] at cA cB hl
  have cC := fun W => Next_any k z p g h u W
  have cD := fun W => RNext_any k z p g h u W
  have hcase : (∃ E2, E2 ≠ 0 ∧ nextE k z p g h u = (0, E2)) ∨ (∃ N, nextE k z p g h u = (N, 0) ∧ u < N ∧ winsE k z p g h u = (wins k z p g h u, 0) ∧ (wins k z p g h u).length ≤ 50 ∧ ∀ (i : Nat) (x : Int × Int), (wins k z p g h u)[i]? = some x → N ≤ x.2) := by
    unfold nextE
    by_cases hv : vspec k z p g h = true
    · rw [if_pos hv]
      by_cases ht : vtime u = true
      · rw [if_pos ht]
        by_cases hk : notStep k = true
        · rw [if_pos hk]; exact .inl ⟨11, by omega, rfl⟩
        · rw [if_neg hk]
          have hk' := isStep hv (by simpa using hk)
          have hs := stp_of k z p g h hv hk'
          obtain ⟨f1, f2⟩ := from0_bd (t := u) hs
          refine .inr ⟨_, rfl, by omega, by unfold winsE; rw [if_pos hv, if_pos ht], wins_len k z p g h u hv, fun i x hx => ?_⟩
          have ew : wins k z p g h u = winsFrom (from0 z (stepOf k z p) h u) (stepOf k z p) z (count (from0 z (stepOf k z p) h u) (stepOf k z p) u) := by
            unfold wins; rw [if_neg (by omega), if_neg (by omega)]
          rw [ew] at hx
          have hi : i < count (from0 z (stepOf k z p) h u) (stepOf k z p) u := by
            have := (List.getElem?_eq_some_iff.1 hx).1
            rwa [winsFrom_length] at this
          rw [winsFrom_get _ _ _ _ _ hi] at hx
          have hx' := Option.some.inj hx
          have h0 : 0 ≤ (i : Int) * stepOf k z p := Int.mul_nonneg (by omega) (by have := hs.b1; omega)
          rw [← hx']
          simp only
          omega
      · rw [if_neg ht]; exact .inl ⟨7, by omega, rfl⟩
    · rw [if_neg hv]; exact .inl ⟨1, by omega, rfl⟩
  have CA := hide cA
  have CB := hide cB
  clear cA cB hLE hn
  rcases hcase with ⟨E2, hE2, hnx⟩ | ⟨N, hnx, hun, hw, hl50, hmem⟩
  · rw [hnx] at cC cD
    dsimp only at cC cD
    have CC := hide cC
    have CD := hide cD
    have hne : (E2 != 0) = true := by simpa using hE2
    clear cC cD hnx hE2
    go_enter Try.func4, Try.ntmps4
    go_wp2_with fail
    refine (CA.out _).mono ?_
    rintro e w1 ⟨A1, c1, rfl, hR1, hB1⟩
    have bs1 := (Blk.new w 27 #[.int .i64 k, .int .i64 z, .int .i64 p, .int .i64 g, .int .i64 h]).below hB1 (by simp)
    have hl1 := bs1.lt
    have e0 := bs1.cell 0
    have e1 := bs1.cell 1
    have e2 := bs1.cell 2
    have e3 := bs1.cell 3
    have e4 := bs1.cell 4
    simp at e0 e1 e2 e3 e4
    go_wp2_with fail
    refine (CB.out _).mono ?_
    rintro e w2 ⟨A2, c2, rfl, hR2, hB2⟩
    have hR1' := hR1.up hB2
    have bs2 := bs1.below hB2 hl1
    have hl2 := bs2.lt
    clear e0 e1 e2 e3 e4
    go_wp2_with fail
    refine (SameW_any _ _ _ _ _ _ _ _ L L _ hR1' hR2 (by omega) (by omega)).mono ?_
    rintro e w3 ⟨rfl, n3, rfl⟩
    have hd : decide (L = L) = true := by simp
    rw [hd]
    have e0 := bs2.cell 0
    have e1 := bs2.cell 1
    have e2 := bs2.cell 2
    have e3 := bs2.cell 3
    have e4 := bs2.cell 4
    simp at e0 e1 e2 e3 e4
    go_wp2_with fail
    refine (CC.out _).mono ?_
    rintro e w4 ⟨rfl, hB4⟩
    have bs4 : Blk w4 w.heap.size 27 #[.int .i64 k, .int .i64 z, .int .i64 p, .int .i64 g, .int .i64 h] := (bs2.drewN n3).below hB4 hl2
    clear e0 e1 e2 e3 e4
    have e0 := bs4.cell 0
    have e1 := bs4.cell 1
    have e2 := bs4.cell 2
    have e3 := bs4.cell 3
    have e4 := bs4.cell 4
    simp at e0 e1 e2 e3 e4
    go_wp2_with fail
    refine (CD.out _).mono ?_
    rintro e w5 ⟨rfl, hB5⟩
    go_wp2_with fail
    refine (awake_any _).mono ?_
    rintro e w6 ⟨rfl, hB6⟩
    go_wp2
    go_ret
    exact ⟨rfl, bstep (bstep (bstep (bstep (bstep ((Below.refl _ w).alloc (Nat.le_refl _) _) hB1) hB2) (bstep (below_drewN (Below.refl _ _) n3) hB4)) hB5) hB6⟩
  · rw [hnx] at cC cD
    dsimp only at cC cD
    have cE := fun W => Windows_any k z p g h u W
    rw [hw] at cE
    dsimp only at cE
    obtain ⟨M, hM⟩ : ∃ M, wins k z p g h u = M := ⟨_, rfl⟩
    rw [hM] at cE hl50 hmem
    obtain ⟨m, hm⟩ : ∃ m, M.length = m := ⟨_, rfl⟩
    rw [hm] at cE hl50
    have CC := hide cC
    have CD := hide cD
    have CE := hide cE
    have HM := hide hm
    have HMEM := hide hmem
    clear cC cD cE hnx hw hM hm hmem
    go_enter Try.func4, Try.ntmps4
    go_wp2_with fail
    refine (CA.out _).mono ?_
    rintro e w1 ⟨A1, c1, rfl, hR1, hB1⟩
    have bs1 := (Blk.new w 27 #[.int .i64 k, .int .i64 z, .int .i64 p, .int .i64 g, .int .i64 h]).below hB1 (by simp)
    have hl1 := bs1.lt
    have e0 := bs1.cell 0
    have e1 := bs1.cell 1
    have e2 := bs1.cell 2
    have e3 := bs1.cell 3
    have e4 := bs1.cell 4
    simp at e0 e1 e2 e3 e4
    go_wp2_with fail
    refine (CB.out _).mono ?_
    rintro e w2 ⟨A2, c2, rfl, hR2, hB2⟩
    have hR1' := hR1.up hB2
    have bs2 := bs1.below hB2 hl1
    have hl2 := bs2.lt
    clear e0 e1 e2 e3 e4
    go_wp2_with fail
    refine (SameW_any _ _ _ _ _ _ _ _ L L _ hR1' hR2 (by omega) (by omega)).mono ?_
    rintro e w3 ⟨rfl, n3, rfl⟩
    have hd : decide (L = L) = true := by simp
    rw [hd]
    have e0 := bs2.cell 0
    have e1 := bs2.cell 1
    have e2 := bs2.cell 2
    have e3 := bs2.cell 3
    have e4 := bs2.cell 4
    simp at e0 e1 e2 e3 e4
    go_wp2_with fail
    refine (CC.out _).mono ?_
    rintro e w4 ⟨rfl, hB4⟩
    have bs4 : Blk w4 w.heap.size 27 #[.int .i64 k, .int .i64 z, .int .i64 p, .int .i64 g, .int .i64 h] := (bs2.drewN n3).below hB4 hl2
    have hl4 := bs4.lt
    clear e0 e1 e2 e3 e4
    have e0 := bs4.cell 0
    have e1 := bs4.cell 1
    have e2 := bs4.cell 2
    have e3 := bs4.cell 3
    have e4 := bs4.cell 4
    simp at e0 e1 e2 e3 e4
    go_wp2_with fail
    refine (CD.out _).mono ?_
    rintro e w5 ⟨rfl, hB5⟩
    have bs5 := bs4.below hB5 hl4
    clear e0 e1 e2 e3 e4
    have e0 := bs5.cell 0
    have e1 := bs5.cell 1
    have e2 := bs5.cell 2
    have e3 := bs5.cell 3
    have e4 := bs5.cell 4
    simp at e0 e1 e2 e3 e4
    go_wp2_with fail
    refine (CE.out _).mono ?_
    rintro e w6 ⟨A6, c6, rfl, hR6, hB6⟩
    have hB := bstep (bstep (bstep (bstep (bstep ((Below.refl _ w).alloc (Nat.le_refl _) _) hB1) hB2) (bstep (below_drewN (Below.refl _ _) n3) hB4)) hB5) hB6
    clear hB1 hB2 hB4 hB5 hB6 hR1 hR2 hR1' bs1 bs2 bs4 bs5 e0 e1 e2 e3 e4 hl1 hl2 hl4
    go_wp2_with fail
    go_loop [16] (fun i => ∃ j : Nat, j ≤ m ∧ i = .int .i64 j) (fun i => m - (intOf i).toNat)
    case atStart => exact ⟨0, Nat.zero_le _, rfl⟩
    case round =>
      obtain ⟨j, hj, rfl⟩ := hrel
      by_cases hjm : j < m
      · obtain ⟨b, off, x, rfl, hb, hx, hc⟩ := hR6.elem encW_len HM.out hjm
        have d1 := hc 1 _ rfl
        have hge := HMEM.out j x hx
        have hnl : ¬ x.2 < N := by omega
        clear hc hx
        simp only [← Nat.add_assoc] at d1
        go_wp2
        go_round
        case rel => exact ⟨j + 1, by omega, by go_num⟩
        case measure => simp [intOf]; omega
      · obtain rfl : j = m := by omega
        go_wp2_with fail
        refine (awake_any _).mono ?_
        rintro e w7 ⟨rfl, hB7⟩
        go_wp2
        go_ret
        exact ⟨rfl, bstep hB hB7⟩
end Go.Proofs.Ytehifbogadohgaa
