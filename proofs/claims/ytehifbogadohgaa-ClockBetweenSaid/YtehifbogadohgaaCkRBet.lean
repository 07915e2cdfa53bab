/-
  The walk of tidewrightref01.Between, for every valid stepped spec and range.
-/
import Derived.Test.YtehifbogadohgaaCkBet
namespace Go.Proofs.Ytehifbogadohgaa
open Go.RowKit Go.Shelf

theorem count_mono {a b f t : Int} (hb : 1 ≤ b) (ha : a ≤ f) (hle : f ≤ t) : count a b f ≤ count a b t := by
  rcases Nat.lt_or_ge (count a b t) (count a b f) with h | h
  · have h1 := (count_bd hb ha _).1 h
    have h2 := (count_bd (a := a) (t := t) hb (by omega) (count a b t)).2 (by omega)
    omega
  · exact h

set_option maxRecDepth 100000 in
set_option maxHeartbeats 4000000 in
theorem RBetween_ok (k z p g h f t : Int) (hv : vspec k z p g h = true) (hf : vtime f = true) (ht : vtime t = true) (hle : f ≤ t) (hk : k = 1 ∨ k = 2) (w : World) :
    Calls Try.prog 14 #[.agg #[.int .i64 k, .int .i64 z, .int .i64 p, .int .i64 g, .int .i64 h], .int .i64 f, .int .i64 t] w
      (RetSlE w 2 (betL (from0 z (stepOf k z p) h f) (stepOf k z p) z (count (from0 z (stepOf k z p) h f) (stepOf k z p) t)).1.length (flatW (betL (from0 z (stepOf k z p) h f) (stepOf k z p) z (count (from0 z (stepOf k z p) h f) (stepOf k z p) t)).1) (betL (from0 z (stepOf k z p) h f) (stepOf k z p) z (count (from0 z (stepOf k z p) h f) (stepOf k z p) t)).2) := by
  obtain ⟨i0, hi, hz0, hz1, hz2⟩ := info_parts Try.infoWin
  have hs := stp_of k z p g h hv hk
  obtain ⟨hf1, hf2⟩ := vtime_bd hf
  obtain ⟨ht1, ht2⟩ := vtime_bd ht
  have hev := fun W => every_any k z p g h W
  have hfi := fun W => first_any k z p g h f hs (by omega) (by omega) W
  have hd := (stepTests hk).2
  have hat := fun W => At_any k z p g h f hv hf W
  have ew : wins k z p g h f = winsFrom (from0 z (stepOf k z p) h f) (stepOf k z p) z (count (from0 z (stepOf k z p) h f) (stepOf k z p) f) := by
    unfold wins; rw [if_neg (by omega), if_neg (by omega)]
  have hc50 := wins_len k z p g h f hv
  rw [ew, winsFrom_length] at hc50
  simp only [ew, winsFrom_length] at hat
  have hff := first_from (t := f) hs
  obtain ⟨b, hb⟩ : ∃ b, stepOf k z p = b := ⟨_, rfl⟩
  rw [hb] at hs hc50 hff ⊢
  simp only [hb] at hev hfi hat
  clear hb ew
  obtain ⟨f1, f2⟩ := from0_bd (t := f) hs
  have hcb := fun i => count_bd (b := b) (a := from0 z b h f) (t := t) hs.b1 (by have := hs.bz; omega) i
  have hcm := count_mono (b := b) (a := from0 z b h f) (f := f) (t := t) hs.b1 (by have := hs.bz; omega) hle
  have hlast := fun h0 => (count_bd (b := b) (a := from0 z b h f) (t := f) hs.b1 (by have := hs.bz; omega) (count (from0 z b h f) b f - 1)).1 h0
  have hpos := (count_bd (b := b) (a := from0 z b h f) (t := f) hs.b1 (by have := hs.bz; omega) 0).2 (by have := hs.bz; omega)
  obtain ⟨s1, s2, s3, s4, s5, s6⟩ := hs
  obtain ⟨a, ha⟩ : ∃ a, from0 z b h f = a := ⟨_, rfl⟩
  rw [ha] at f1 f2 hc50 hff hcm hpos ⊢
  simp only [ha] at hcb hat hlast
  obtain ⟨c, hc⟩ : ∃ c, count a b t = c := ⟨_, rfl⟩
  rw [hc] at hcm ⊢
  simp only [hc] at hcb
  obtain ⟨c0, hc0⟩ : ∃ c, count a b f = c := ⟨_, rfl⟩
  rw [hc0] at hc50 hff hcm hpos
  simp only [hc0] at hat hlast
  have hbo := fun h => betL_ok a b z (c := c) h
  have hbn := fun h => betL_no a b z (c := c) h
  obtain ⟨LE, hLE⟩ : ∃ LE, betL a b z c = LE := ⟨_, rfl⟩
  rw [hLE]
  simp only [hLE] at hbo hbn
  have HBO := hide hbo
  have HBN := hide hbn
  have HCB := hide hcb
  obtain ⟨F, hF⟩ : ∃ F, firstOf b h f = F := ⟨_, rfl⟩
  rw [hF] at hff
  simp only [hF] at hfi
  have HV := hide hv
  have HF := hide hf
  have HT := hide ht
  have HEV := hide hev
  have HFI := hide hfi
  have HAT := hide hat
  have hFb : F + b = a + (c0 : Int) * b := by omega
  have hFr : a - b ≤ F ∧ F ≤ f := by
    have h1 := hlast (by omega)
    have h2 : ((c0 - 1 : Nat) : Int) = (c0 : Int) - 1 := by omega
    rw [h2, Int.sub_mul] at h1
    have h3 : 0 ≤ (c0 : Int) * b := Int.mul_nonneg (by omega) (by omega)
    omega
  obtain ⟨hFr1, hFr2⟩ := hFr
  have i1 : IntKind.i64.wrap (F + b) = F + b := IntWalk.i64_in _ (by omega)
  have I1 := hide i1
  have HFB := hide hFb
  clear hv hf ht hev hfi hat hbo hbn hLE hcb hc hc0 hF ha hk hff hlast hFb i1
  have hle' : ¬ t < f := by omega
  go_enter Try.func14, Try.ntmps14
  go_wp2_with fail
  refine (RValidSpec_any _ _ _ _ _ _).mono ?_
  rintro e w1 ⟨rfl, hB1⟩
  rw [HV.out]
  have bs1 := (Blk.new w 27 #[.int .i64 k, .int .i64 z, .int .i64 p, .int .i64 g, .int .i64 h]).below hB1 (by simp)
  have hl1 := bs1.lt
  have e0 := bs1.cell 0
  have e1 := bs1.cell 1
  have e2 := bs1.cell 2
  have e3 := bs1.cell 3
  have e4 := bs1.cell 4
  simp at e0 e1 e2 e3 e4
  go_wp2_with fail
  refine (RValid_any _ _).mono ?_
  rintro e w' ⟨rfl, rfl⟩
  rw [HF.out]
  go_wp2_with fail
  refine (RValid_any _ _).mono ?_
  rintro e w' ⟨rfl, rfl⟩
  rw [HT.out]
  go_wp2_with fail
  refine (stepped_any _ _ _ _ _ _).mono ?_
  rintro e w2 ⟨rfl, hB2⟩
  rw [hd]
  have bs2 := bs1.below hB2 hl1
  have hl2 := bs2.lt
  have hB := bstep (bstep ((Below.refl _ w).alloc (Nat.le_refl _) _) hB1) hB2
  clear e0 e1 e2 e3 e4 bs1 hB1 hB2 hl1
  have e0 := bs2.cell 0
  have e1 := bs2.cell 1
  have e2 := bs2.cell 2
  have e3 := bs2.cell 3
  have e4 := bs2.cell 4
  simp at e0 e1 e2 e3 e4
  go_wp2_with fail
  refine (HAT.out _).mono ?_
  rintro e w3 ⟨A0, cc0, rfl, hown0, hB3⟩
  have bs3 := bs2.below hB3 hl2
  have hl3 := bs3.lt
  clear e0 e1 e2 e3 e4
  have c0' := fun q : BW w3 => BW.cell (a := ⟨w.heap.size, 0, none⟩) bs3.lt (bs3.cell 0) q
  have c1' := fun q : BW w3 => BW.cell (a := ⟨w.heap.size, 1, none⟩) bs3.lt (bs3.cell 1) q
  have c2' := fun q : BW w3 => BW.cell (a := ⟨w.heap.size, 2, none⟩) bs3.lt (bs3.cell 2) q
  have c3' := fun q : BW w3 => BW.cell (a := ⟨w.heap.size, 3, none⟩) bs3.lt (bs3.cell 3) q
  have c4' := fun q : BW w3 => BW.cell (a := ⟨w.heap.size, 4, none⟩) bs3.lt (bs3.cell 4) q
  simp at c0' c1' c2' c3' c4'
  have i1 := I1.out
  go_wp2_with fail
  (refine wp_region_quiet_bw (by kernel_rfl) (by kernel_rfl) ?_
   repeat (first | go_big_quiet_step ((first | (go_at_call 46; exact calls_bw (HEV.out _)) | (go_at_call 45; exact calls_bw (HFI.out _)))) | quiet_step ((first | (go_at_call 46; exact calls_bw (HEV.out _)) | (go_at_call 45; exact calls_bw (HFI.out _)))))
   refine wpQuiet_nil ?_
   intro _ hw'
   obtain ⟨⟨wq, hbq⟩, hw''⟩ := hw'
   subst hw'')
  clear i1 c0' c1' c2' c3' c4'
  have hown1 := own_below hown0 hbq
  have hB4 := hB3.trans (hbq.mono hB3.size)
  clear hown0 hB3 bs3 hl3
  go_wp2_with fail
  go_loopw [8, 9] (fun v i wr => ∃ (m : Nat) (A : Option Addr) (cc : Nat), m ≤ c ∧ m ≤ 400 ∧ i = .int .i64 (a + (m : Int) * b) ∧ v = .slice A m cc ∧ wr.ownsRow w2.heap.size 35 2 v m (flatW (winsFrom a b z m)) ∧ Below w2.heap.size w2 wr) (fun _ i _ => (t + 1 - intOf i).toNat)
  case atStart => exact ⟨c0, A0, cc0, hcm, by omega, by rw [HFB.out], rfl, hown1, hB4⟩
  case round =>
    obtain ⟨m, A, cc, hm, hm4, rfl, rfl, hrow, hBr⟩ := hrel
    clear hown1 hB4 hbq
    have hWs := hBr.size
    have bsr := bs2.below hBr hl2
    have e1 := bsr.cell 1
    simp at e1
    have hmb : 0 ≤ (m : Int) * b := Int.mul_nonneg (by omega) (by omega)
    have HCM := hide (HCB.out m)
    have HX1 : Hid (a + (m : Int) * b + b = a + ((m + 1 : Nat) : Int) * b) := hide (by rw [Int.natCast_add, Int.add_mul]; omega)
    have HSN := hide (winsFrom_snoc a b z m)
    obtain ⟨x, hx⟩ : ∃ x, a + (m : Int) * b = x := ⟨_, rfl⟩
    rw [hx] at HX1 HCM ⊢
    simp only [hx] at HSN
    have hxa : a ≤ x := by omega
    clear hx hmb
    by_cases hlt : m < c
    · have hle2 := HCM.out.1 hlt
      by_cases h400 : m = 400
      · subst h400
        have HE := hide (HBN.out hlt)
        go_wp2_with (at_builtin; refine wpList_append_own _ rfl _ _ 22 rfl w2.heap.size 35 i0 _ 2 16 Try.underlying22 hi hz0 hz1 hz2 rfl (by decide) _ _ _ rfl (hrow.alloc _) ⟨wr.heap.size, 0, none⟩ 1 1 [.int .i64 x, .int .i64 (x + z)] rfl rfl (cells_new _ _ _) (by simp [Value.oneCell']) (by unfold maxLen; omega) (by omega) (by simp; omega) ?_; intro v' w6 hown' hgrow _; obtain ⟨g', cap', rfl⟩ := ownsRow_succ hown'; have hB6 : Below w2.heap.size w2 w6 := below_append (hBr.alloc hWs _) (hrow.alloc _) (by simp; omega) hgrow)
        go_ret2
        rw [HE.out]
        exact ⟨none, 0, rfl, Reads.none_, bstep hB hB6⟩
      · have hm5 : m < 400 := by omega
        clear h400
        go_wp2_with (at_builtin; refine wpList_append_own _ rfl _ _ 22 rfl w2.heap.size 35 i0 _ 2 16 Try.underlying22 hi hz0 hz1 hz2 rfl (by decide) _ _ _ rfl (hrow.alloc _) ⟨wr.heap.size, 0, none⟩ 1 1 [.int .i64 x, .int .i64 (x + z)] rfl rfl (cells_new _ _ _) (by simp [Value.oneCell']) (by unfold maxLen; omega) (by omega) (by simp; omega) ?_; intro v' w6 hown' hgrow _; obtain ⟨g', cap', rfl⟩ := ownsRow_succ hown'; have hB6 : Below w2.heap.size w2 w6 := below_append (hBr.alloc hWs _) (hrow.alloc _) (by simp; omega) hgrow; have bs6 := bs2.below hB6 hl2; have g0 := bs6.cell 0; have g1 := bs6.cell 1; have g2 := bs6.cell 2; have g3 := bs6.cell 3; have g4 := bs6.cell 4; simp at g0 g1 g2 g3 g4; clear e1)
        refine (HEV.out _).mono ?_
        rintro e w7 ⟨rfl, hB7⟩
        have hown7 := own_below hown' hB7
        go_wp2
        go_roundw
        case rel => exact ⟨m + 1, _, cap', by omega, by omega, by rw [← HX1.out], rfl, by rw [HSN.out, flatW_snoc]; exact hown7, hB6.trans (hB7.mono hB6.size)⟩
        case measure => simp [intOf]; omega
    · have hgt : t < x := by
        have := mt HCM.out.2 hlt; omega
      obtain rfl : m = c := by omega
      have HE := hide (HBO.out hm4)
      have hR := Reads.of_own hrow
      go_wp2
      go_ret2
      rw [HE.out]
      exact ⟨A, cc, by rw [winsFrom_length]; rfl, by rw [winsFrom_length]; exact hR, bstep hB hBr⟩
end Go.Proofs.Ytehifbogadohgaa
