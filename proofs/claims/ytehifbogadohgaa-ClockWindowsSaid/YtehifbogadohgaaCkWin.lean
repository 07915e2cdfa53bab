/-
  The law ClockWindows: the walk, for every input.
-/
import Derived.Test.YtehifbogadohgaaCkWinM
import Derived.Test.YtehifbogadohgaaCkRW
namespace Go.Proofs.Ytehifbogadohgaa
open Go.RowKit Go.Shelf

theorem winsE_bad (k z p g h t : Int) (hv : (vspec k z p g h && vtime t) = false) : ∃ E, E ≠ 0 ∧ 0 ≤ E ∧ E ≤ 7 ∧ winsE k z p g h t = ([], E) := by
  unfold winsE
  by_cases h1 : vspec k z p g h = true
  · by_cases h2 : vtime t = true
    · rw [h1, h2] at hv; cases hv
    · exact ⟨7, by omega, by omega, by omega, by rw [if_pos h1, if_neg h2]⟩
  · exact ⟨1, by omega, by omega, by omega, by rw [if_neg h1]⟩

set_option maxHeartbeats 1000000 in
theorem windows_bad (k z p g h t : Int) (hv : (vspec k z p g h && vtime t) = false) (w : World) :
    Calls Try.prog 5 #[.agg #[.int .i64 k, .int .i64 z, .int .i64 p, .int .i64 g, .int .i64 h], .int .i64 t] w (RetV w (.bool true)) := by
  obtain ⟨E, hE, hE1, hE2, hw⟩ := winsE_bad k z p g h t hv
  have cA := fun W => Windows_any k z p g h t W
  have cB := fun W => RWindows_any k z p g h t W
  rw [hw] at cA cB
  dsimp only at cA cB
  have CA := hide cA
  have CB := hide cB
  have hne : (E != 0) = true := by simpa using hE
  clear cA cB hw hv hE
  go_enter Try.func5, Try.ntmps5
  go_wp2_with fail
  refine (CA.out _).mono ?_
  rintro e w1 ⟨A1, c1, rfl, hR1, hB1⟩
  have bs1 := (Blk.new w 27 #[.int .i64 k, .int .i64 z, .int .i64 p, .int .i64 g, .int .i64 h]).below hB1 (by simp)
  have e0 := bs1.cell 0
  have e1 := bs1.cell 1
  have e2 := bs1.cell 2
  have e3 := bs1.cell 3
  have e4 := bs1.cell 4
  simp at e0 e1 e2 e3 e4
  go_wp2_with fail
  refine (CB.out _).mono ?_
  rintro e w2 ⟨A2, c2, rfl, hR2, hB2⟩
  have hR1' := hR1.up hB2
  go_wp2_with fail
  refine (SameW_any _ _ _ _ _ _ _ _ [] [] _ hR1' hR2 (by simp) (by simp)).mono ?_
  rintro e w3 ⟨rfl, n3, rfl⟩
  have hd : decide (([] : List (Int × Int)) = []) = true := by simp
  rw [hd]
  go_wp2_with fail
  refine (awake_any _).mono ?_
  rintro e w4 ⟨rfl, hB4⟩
  go_wp2
  go_ret
  exact ⟨rfl, bstep (bstep (bstep ((Below.refl _ w).alloc (Nat.le_refl _) _) hB1) hB2) (bstep (below_drewN (Below.refl _ _) n3) hB4)⟩

set_option maxRecDepth 100000 in
set_option maxHeartbeats 4000000 in
theorem windows_ok (k z p g h t : Int) (hv : vspec k z p g h = true) (ht : vtime t = true) (w : World) :
    Calls Try.prog 5 #[.agg #[.int .i64 k, .int .i64 z, .int .i64 p, .int .i64 g, .int .i64 h], .int .i64 t] w (RetV w (.bool true)) := by
  have cA := fun W => Windows_any k z p g h t W
  have cB := fun W => RWindows_any k z p g h t W
  have hw : winsE k z p g h t = (wins k z p g h t, 0) := by unfold winsE; rw [if_pos hv, if_pos ht]
  rw [hw] at cA cB
  dsimp only at cA cB
  have hcon := wins_cont k z p g h t hv ht
  have hasc := wins_asc k z p g h t hv
  have hlen := wins_len k z p g h t hv
  have hnum := wins_num k z p g h t hv
  have hone := wins_one k z p g h t hv
  have hpz : k = 2 → 1 ≤ p ∧ p ≤ z ∧ z ≤ 1000000000 := by
    intro hk; unfold vspec at hv; rw [decide_eq_true_eq] at hv; omega
  obtain ⟨L, hL⟩ : ∃ L, wins k z p g h t = L := ⟨_, rfl⟩
  rw [hL] at cA cB hcon hasc hlen hnum hone
  obtain ⟨n, hn⟩ : ∃ n, L.length = n := ⟨_, rfl⟩
  rw [hn] at cA cB hlen hnum hone
  clear hw hL hv ht
  have HN := hide hn
  have CA := hide cA
  have CB := hide cB
  have HC := hide hcon
  have HA := hide hasc
  have HNUM := hide hnum
  have HONE := hide hone
  have HPZ := hide hpz
  clear hn cA cB hcon hasc hnum hone hpz
  go_enter Try.func5, Try.ntmps5
  go_wp2_with fail
  refine (CA.out _).mono ?_
  rintro e w1 ⟨A1, c1, rfl, hR1, hB1⟩
  have bs1 := (Blk.new w 27 #[.int .i64 k, .int .i64 z, .int .i64 p, .int .i64 g, .int .i64 h]).below hB1 (by simp)
  have hlt1 := bs1.lt
  have e0 := bs1.cell 0
  have e1 := bs1.cell 1
  have e2 := bs1.cell 2
  have e3 := bs1.cell 3
  have e4 := bs1.cell 4
  simp at e0 e1 e2 e3 e4
  go_wp2_with fail
  refine (CB.out _).mono ?_
  rintro e w2 ⟨A2, c2, rfl, hR2, hB2⟩
  have hR1' := hR1.up hB2
  have bs2 := bs1.below hB2 hlt1
  clear e0 e1 e2 e3 e4 bs1 hlt1 hR1
  have hB02 : Below w.heap.size w w2 := bstep (bstep ((Below.refl _ w).alloc (Nat.le_refl _) _) hB1) hB2
  clear hB1 hB2
  go_wp2_with fail
  refine (SameW_any _ _ _ _ _ _ _ _ L L _ hR1' hR2 (by omega) (by omega)).mono ?_
  rintro e w3 ⟨rfl, n3, rfl⟩
  have hd : decide (L = L) = true := by simp
  rw [hd]
  have hR3 : Reads (w2.drewN n3) (w2.drewN n3).heap.size 2 A1 n (flatW L) := hR1'
  have bs3 : Blk (w2.drewN n3) w.heap.size 27 #[.int .i64 k, .int .i64 z, .int .i64 p, .int .i64 g, .int .i64 h] := bs2
  have hB03 := below_drewN hB02 n3
  generalize w2.drewN n3 = W3 at hR3 bs3 hB03 ⊢
  clear hR2 hR1' bs2 hB02
  have hltw := bs3.lt
  go_wp2_with fail
  go_loopw [9] (fun i wr => ∃ j : Nat, j ≤ n ∧ i = .int .i64 j ∧ Below W3.heap.size W3 wr) (fun i _ => n - (intOf i).toNat)
  case atStart => exact ⟨0, Nat.zero_le _, rfl, Below.refl _ _⟩
  case round =>
    obtain ⟨j, hj, rfl, hBr⟩ := hrel
    have hRr := hR3.below hBr
    have bsr := bs3.below hBr hltw
    by_cases hjn : j < n
    · obtain ⟨b, off, x, rfl, hb, hx, hc⟩ := hRr.elem encW_len HN.out hjn
      have hcx := HC.out j x hx
      have hb' : b < wr.heap.size := Nat.lt_of_lt_of_le hb hBr.size
      have d0 := fun q : BW wr => BW.cell (a := ⟨b, off + (j * 2 + 0), none⟩) hb' (hc 0 _ rfl) q
      have d1 := fun q : BW wr => BW.cell (a := ⟨b, off + (j * 2 + 1), none⟩) hb' (hc 1 _ rfl) q
      simp only [Nat.add_zero, ← Nat.add_assoc] at d0 d1
      have hCon : ∀ W : World, Calls Try.prog 18 #[.agg #[.int .i64 x.1, .int .i64 x.2], .int .i64 t] W (RetV W (.bool true)) := fun W => by rw [← hcx]; exact Contains_any _ _ _ W
      have HCON := hide hCon
      clear hCon hcx
      have HX := hide hx
      clear hx
      rcases Nat.eq_zero_or_pos j with hj0 | hj0
      · subst hj0
        clear HA hc
        simp only [Nat.zero_mul, Nat.add_zero] at d0 d1
        go_wp2_with fail
        (refine wp_region_quiet_bw (by kernel_rfl) (by kernel_rfl) ?_
         repeat (first | go_big_quiet_step ((go_at_call 18; exact calls_bw (HCON.out _))) | quiet_step ((go_at_call 18; exact calls_bw (HCON.out _))))
         refine wpQuiet_nil ?_
         intro _ hw'
         obtain ⟨⟨wq, hbq⟩, hw''⟩ := hw'
         subst hw'')
        go_wp2
        go_roundw
        case rel => exact ⟨1, by omega, rfl, hBr.trans (hbq.mono hBr.size)⟩
        case measure => simp [intOf]; omega
      · obtain ⟨i, rfl⟩ : ∃ i, j = i + 1 := ⟨j - 1, by omega⟩
        clear hj0
        obtain ⟨b2, off2, y, hA2, hb2, hy, hc2⟩ := hRr.elem (i := i) encW_len HN.out (by omega)
        cases hA2
        have hcmp := HA.out i y x hy HX.out
        have f0 := fun q : BW wr => BW.cell (a := ⟨b, off + (i * 2 + 0), none⟩) hb' (hc2 0 _ rfl) q
        have f1 := fun q : BW wr => BW.cell (a := ⟨b, off + (i * 2 + 1), none⟩) hb' (hc2 1 _ rfl) q
        simp only [Nat.add_zero, ← Nat.add_assoc] at f0 f1
        have hCmp : ∀ W : World, Calls Try.prog 19 #[.agg #[.int .i64 y.1, .int .i64 y.2], .agg #[.int .i64 x.1, .int .i64 x.2]] W (RetV W (.int .i64 (-1))) := fun W => by rw [← hcmp]; exact Compare_any _ _ _ _ W
        have HCMP := hide hCmp
        clear hCmp hcmp hy hc hc2
        have iw : IntKind.i64.wrap ((i : Int) + 1 - 1) = (i : Int) := by rw [IntWalk.i64_in _ (by omega)]; omega
        go_wp2_with fail
        (refine wp_region_quiet_bw (by kernel_rfl) (by kernel_rfl) ?_
         repeat (first | go_big_quiet_step ((first | (go_at_call 18; exact calls_bw (HCON.out _)) | (go_at_call 19; exact calls_bw (HCMP.out _)))) | quiet_step ((first | (go_at_call 18; exact calls_bw (HCON.out _)) | (go_at_call 19; exact calls_bw (HCMP.out _)))))
         refine wpQuiet_nil ?_
         intro _ hw'
         obtain ⟨⟨wq, hbq⟩, hw''⟩ := hw'
         subst hw'')
        clear iw
        go_wp2
        go_roundw
        case rel => exact ⟨i + 1 + 1, by omega, by go_num, hBr.trans (hbq.mono hBr.size)⟩
        case measure => simp [intOf]; omega
    · obtain rfl : j = n := by omega
      have e0 := bsr.cell 0
      have e1 := bsr.cell 1
      have e2 := bsr.cell 2
      simp at e0 e1 e2
      have hfin : Below w.heap.size w wr := hB03.trans (hBr.mono hB03.size)
      by_cases hk : k = 2
      · subst hk
        obtain ⟨p1, p2, p3⟩ := HPZ.out rfl
        have hq0 : 0 ≤ z / p := Int.ediv_nonneg (by omega) (by omega)
        have hq1 : z / p ≤ z := Int.ediv_le_self _ (by omega)
        have hq2 : 0 ≤ (z + p - 1) / p := Int.ediv_nonneg (by omega) (by omega)
        have hq3 : (z + p - 1) / p ≤ z + p - 1 := Int.ediv_le_self _ (by omega)
        by_cases hn1 : (j : Int) = z / p
        · have ht1 : ((j : Int) == z / p) = true := by simpa using hn1
          clear hn1
          go_wp2_with fail
          refine (awake_any _).mono ?_
          rintro e w4 ⟨rfl, hB4⟩
          go_wp2
          go_ret
          exact ⟨rfl, bstep hfin hB4⟩
        · have ht1 : ((j : Int) == z / p) = false := by simpa using hn1
          have ht2 : ((j : Int) == (z + p - 1) / p) = true := by
            rcases HNUM.out rfl with h1 | h1
            · exact absurd h1 hn1
            · simpa using h1
          clear hn1
          go_wp2_with fail
          refine (awake_any _).mono ?_
          rintro e w4 ⟨rfl, hB4⟩
          go_wp2
          go_ret
          exact ⟨rfl, bstep hfin hB4⟩
      · have hk' : (k == 2) = false := by simpa using hk
        obtain rfl : j = 1 := HONE.out hk
        go_wp2_with fail
        refine (awake_any _).mono ?_
        rintro e w4 ⟨rfl, hB4⟩
        go_wp2
        go_ret
        exact ⟨rfl, bstep hfin hB4⟩

theorem windows_law (k z p g h t : Int) (w : World) :
    Calls Try.prog 5 #[.agg #[.int .i64 k, .int .i64 z, .int .i64 p, .int .i64 g, .int .i64 h], .int .i64 t] w (RetV w (.bool true)) := by
  by_cases hv : vspec k z p g h = true
  · by_cases ht : vtime t = true
    · exact windows_ok k z p g h t hv ht w
    · exact windows_bad k z p g h t (by simp [ht]) w
  · exact windows_bad k z p g h t (by simp [hv]) w
end Go.Proofs.Ytehifbogadohgaa
