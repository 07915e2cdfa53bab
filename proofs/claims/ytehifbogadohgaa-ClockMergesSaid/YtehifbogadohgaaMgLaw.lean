/-
  The walk of ClockMerges, for every list of windows and picks.
-/
import Derived.Test.YtehifbogadohgaaMgLawM
import Derived.Test.YtehifbogadohgaaCkD
namespace Go.Proofs.Ytehifbogadohgaa
open Go.RowKit
attribute [local go_sem] Oper.semAt_some

set_option maxRecDepth 100000 in
set_option maxHeartbeats 16000000 in
theorem merges_law (A : Option Addr) (n c : Nat) (l : List Wd) (Ap : Option Addr) (np cp : Nat) (ps : List Int) (w : World) (hl : Reads w w.heap.size 2 A n (flatW l)) (hn : n ≤ 9223372036854775807) (hp : Reads w w.heap.size 1 Ap np (ps.map (.int .i64))) (hnp : np ≤ 9223372036854775807) :
    Calls Try.prog 7 #[.slice A n c, .slice Ap np cp] w (RetV w (.bool true)) := by
  obtain ⟨i0, hi0, hz0, hz1, hz2⟩ := info_parts Try.infoWin
  have HAW := hide (awake_any)
  have HL := hide (show l.length = n from hl.len (enc := encW) encW_len (by omega))
  by_cases h5 : n ≤ 500
  · have z5 : decide ((n : Int) ≤ 500) = true := by simp; omega
    go_enter Try.func7, Try.ntmps7
    go_wp2_with fail
    refine (short_any n w).mono ?_
    rintro e w' ⟨rfl, rfl⟩
    rw [z5]
    go_wp2_with fail
    refine (Merge_any A n c l w hl hn).mono ?_
    rintro e W1 ⟨out, A1, n1, c1, E, hm1, rfl, hn1, hR1, hB1⟩
    go_wp2_with fail
    refine (RMerge_any A n c l W1 (hl.up hB1) hn).mono ?_
    rintro e W2 ⟨out2, A2, n2, c2, F, hm2, rfl, hn2, hR2, hB2⟩
    have hR1 := hR1.up hB2
    have hB02 := bstep hB1 hB2
    obtain ⟨ho, hE⟩ := hm1.one hm2
    subst ho hE
    have hnE : (E != E) = false := by simp
    have HM := hide hm1
    have HSA := hide (SameW_v A1 A2 n1 n2 c1 c2 out out W2 hR1 hR2 (by rw [HL.out] at hn1; omega) (by rw [HL.out] at hn2; omega) rfl)
    clear hm1 hm2 hB1 hB2 hR2
    go_wp2_with fail
    refine HSA.out.mono ?_
    rintro e W3 ⟨rfl, hB3⟩
    have hR1 := hR1.up hB3
    have hB03 := bstep hB02 hB3
    clear HSA hB02 hB3
    cases hok : okMg l
    · obtain ⟨hE, _⟩ := HM.out.of_bad hok
      subst hE
      clear HM hok hR1
      go_wp2_with fail
      refine (HAW.out W3).mono ?_
      rintro e W4 ⟨rfl, hB4⟩
      have HE := hide (bstep hB03 hB4)
      clear hB03 hB4
      go_wp2
      go_ret
      exact ⟨rfl, HE.out⟩
    · obtain ⟨hE, hmg⟩ := HM.out.of_ok hok
      subst hE
      have HMG := hide hmg
      obtain ⟨h400, hval⟩ := okMg_parts hok
      have HVL := hide hval
      have HOK := hide hok
      have hn1' : n1 ≤ 400 := by omega
      clear HM hok hmg hval hnE h400
      have HL1 := hide (show out.length = n1 from hR1.len (enc := encW) encW_len (by omega))
      go_wp2_with fail
      go_loopw [9] (fun i wr => ∃ k : Nat, k ≤ n ∧ i = .int .i64 k ∧ Below W3.heap.size W3 wr) (fun i _ => n - (intOf i).toNat)
      case atStart => exact ⟨0, Nat.zero_le _, rfl, Below.refl _ _⟩
      case round =>
        obtain ⟨k, hk, rfl, hB⟩ := hrel
        by_cases hlt : k < n
        · obtain ⟨bb, off, x, rfl, hb, hxk, hc⟩ := (hl.up hB03).elem (enc := encW) encW_len HL.out hlt
          have d0 : W3.cell? ⟨bb, off + k * 2, none⟩ = some (.int .i64 x.1) := by simpa using hc 0 _ rfl
          have d1 : W3.cell? ⟨bb, off + k * 2 + 1, none⟩ = some (.int .i64 x.2) := by simpa [← Nat.add_assoc] using hc 1 _ rfl
          have HIN := hide (HMG.out.inAny (List.mem_of_getElem? hxk) (vwin_pos (HVL.out x (List.mem_of_getElem? hxk))))
          clear hc hxk
          have q1 : (0 : Int) ≤ (k : Int) := by omega
          have q2 : (k : Int) < (n : Int) := by omega
          go_wp2_with fail
          go_loopw [10, 11] (fun b i wx => ∃ j : Nat, j ≤ n1 ∧ i = .int .i64 j ∧ b = .bool (inAny x (out.take j)) ∧ Below W3.heap.size W3 wx) (fun _ i _ => n1 - (intOf i).toNat)
          case atStart => exact ⟨0, Nat.zero_le _, rfl, rfl, hB⟩
          case round =>
            clear hB
            obtain ⟨j, hj, rfl, hbv, hB⟩ := hrel
            obtain ⟨b, hb⟩ : ∃ b, inAny x (out.take j) = b := ⟨_, rfl⟩
            rw [hb] at hbv
            subst hbv
            have HBV := hide hb
            clear hb
            by_cases hlt2 : j < n1
            · obtain ⟨b2, off2, o, rfl, hb2, hok2, hc2⟩ := hR1.elem (enc := encW) encW_len HL1.out hlt2
              have HNX := hide (inAny_next (x := x) hok2)
              have e0 : W3.cell? ⟨b2, off2 + j * 2, none⟩ = some (.int .i64 o.1) := by simpa using hc2 0 _ rfl
              have e1 : W3.cell? ⟨b2, off2 + j * 2 + 1, none⟩ = some (.int .i64 o.2) := by simpa [← Nat.add_assoc] using hc2 1 _ rfl
              clear hc2 hok2
              have c0 := (hB.cell (p := ⟨bb, off + k * 2, none⟩) (by assumption)).trans d0
              have c1 := (hB.cell (p := ⟨bb, off + k * 2 + 1, none⟩) (by assumption)).trans d1
              have c2 := (hB.cell (p := ⟨b2, off2 + j * 2, none⟩) hb2).trans e0
              have c3 := (hB.cell (p := ⟨b2, off2 + j * 2 + 1, none⟩) hb2).trans e1
              have q3 : (0 : Int) ≤ (j : Int) := by omega
              have q4 : (j : Int) < (n1 : Int) := by omega
              cases b
              · by_cases h1 : o.1 ≤ x.1
                · have z1 : decide (o.1 ≤ x.1) = true := by simpa using h1
                  by_cases h2 : x.2 ≤ o.2
                  · have z2 : decide (x.2 ≤ o.2) = true := by simpa using h2
                    have HR := hide (show inAny x (out.take (j + 1)) = true by rw [HNX.out, HBV.out, z1, z2]; rfl)
                    clear h1 h2
                    go_wp2_with fail
                    go_quiet (fail)
                    go_wp2
                    go_roundw
                    case rel => exact ⟨j + 1, by omega, by go_num, by rw [HR.out], below_drewN hB _⟩
                    case measure => simp [intOf]; omega
                  · have z2 : decide (x.2 ≤ o.2) = false := by simpa using h2
                    have HR := hide (show inAny x (out.take (j + 1)) = false by rw [HNX.out, HBV.out, z1, z2]; rfl)
                    clear h1 h2
                    go_wp2_with fail
                    go_quiet (fail)
                    go_wp2
                    go_roundw
                    case rel => exact ⟨j + 1, by omega, by go_num, by rw [HR.out], below_drewN hB _⟩
                    case measure => simp [intOf]; omega
                · have z1 : decide (o.1 ≤ x.1) = false := by simpa using h1
                  have HR := hide (show inAny x (out.take (j + 1)) = false by rw [HNX.out, HBV.out, z1]; rfl)
                  clear h1
                  go_wp2_with fail
                  go_quiet (fail)
                  go_wp2
                  go_roundw
                  case rel => exact ⟨j + 1, by omega, by go_num, by rw [HR.out], below_drewN hB _⟩
                  case measure => simp [intOf]; omega
              · have HR := hide (show inAny x (out.take (j + 1)) = true by rw [HNX.out, HBV.out]; rfl)
                go_wp2_with fail
                go_quiet (fail)
                go_wp2
                go_roundw
                case rel => exact ⟨j + 1, by omega, by go_num, by rw [HR.out], below_drewN hB _⟩
                case measure => simp [intOf]; omega
            · obtain rfl : j = n1 := by omega
              have hbt : b = true := by rw [← HBV.out, take_all HL1.out, HIN.out]
              subst hbt
              go_wp2
              go_roundw
              case rel => exact ⟨k + 1, by omega, by go_num, hB⟩
              case measure => simp [intOf]; omega
        · obtain rfl : n = k := by omega
          obtain ⟨Wb, hWb⟩ : ∃ Wb : World, Wb = wr := ⟨_, rfl⟩
          subst hWb
          have hRb := hR1.up hB
          have hlb := (hl.up hB03).up hB
          have hBb := bstep hB03 hB
          clear hR1 hB03 hB
          go_wp2_with fail
          go_loopw [12] (fun i wr => ∃ k : Nat, k ≤ n1 ∧ i = .int .i64 k ∧ Below Wb.heap.size Wb wr) (fun i _ => n1 - (intOf i).toNat)
          case atStart => exact ⟨0, Nat.zero_le _, rfl, Below.refl _ _⟩
          case round =>
            obtain ⟨i, hi, rfl, hB⟩ := hrel
            by_cases hlt : i < n1
            · go_wp2_with fail
              go_loopw [13] (fun i' wx => ∃ j : Nat, j ≤ i ∧ i' = .int .i64 j ∧ Below Wb.heap.size Wb wx) (fun i' _ => i - (intOf i').toNat)
              case atStart => exact ⟨0, Nat.zero_le _, rfl, hB⟩
              case round =>
                clear hB
                obtain ⟨j, hj, rfl, hB⟩ := hrel
                by_cases hlt2 : j < i
                · obtain ⟨b2, off2, x, rfl, hb2, hxk, hc⟩ := hRb.elem (enc := encW) encW_len HL1.out hlt
                  obtain ⟨b3, off3, y, e, _, hyk, hc'⟩ := hRb.elem (enc := encW) encW_len HL1.out (show j < n1 by omega)
                  injection e with e
                  injection e with e1 e2
                  subst e1 e2
                  have hma := HMG.out.dis.apart hlt2 hxk hyk
                  have htb : touchB x.1 x.2 y.1 y.2 = false := by unfold touchB; rw [hma]; simp
                  have e0 : Wb.cell? ⟨b2, off2 + i * 2, none⟩ = some (.int .i64 x.1) := by simpa using hc 0 _ rfl
                  have e1 : Wb.cell? ⟨b2, off2 + i * 2 + 1, none⟩ = some (.int .i64 x.2) := by simpa [← Nat.add_assoc] using hc 1 _ rfl
                  have e2 : Wb.cell? ⟨b2, off2 + j * 2, none⟩ = some (.int .i64 y.1) := by simpa using hc' 0 _ rfl
                  have e3 : Wb.cell? ⟨b2, off2 + j * 2 + 1, none⟩ = some (.int .i64 y.2) := by simpa [← Nat.add_assoc] using hc' 1 _ rfl
                  clear hc hc' hxk hyk hma
                  have hbw := Nat.lt_of_lt_of_le hb2 hB.size
                  have C1 := hide (fun (p : BW wr) => calls_bw (p := p) (v := .bool false) (by rw [← htb]; exact Touch_any x.1 x.2 y.1 y.2 p.x))
                  have r0 := fun (p : BW wr) => BW.cell (a := ⟨b2, off2 + i * 2, none⟩) hbw ((hB.cell (p := ⟨b2, off2 + i * 2, none⟩) hb2).trans e0) p
                  have r1 := fun (p : BW wr) => BW.cell (a := ⟨b2, off2 + i * 2 + 1, none⟩) hbw ((hB.cell (p := ⟨b2, off2 + i * 2 + 1, none⟩) hb2).trans e1) p
                  have r2 := fun (p : BW wr) => BW.cell (a := ⟨b2, off2 + j * 2, none⟩) hbw ((hB.cell (p := ⟨b2, off2 + j * 2, none⟩) hb2).trans e2) p
                  have r3 := fun (p : BW wr) => BW.cell (a := ⟨b2, off2 + j * 2 + 1, none⟩) hbw ((hB.cell (p := ⟨b2, off2 + j * 2 + 1, none⟩) hb2).trans e3) p
                  clear e0 e1 e2 e3 htb
                  have q1 : (0 : Int) ≤ (i : Int) := by omega
                  have q2 : (i : Int) < (n1 : Int) := by omega
                  have q3 : (0 : Int) ≤ (j : Int) := by omega
                  have q4 : (j : Int) < (n1 : Int) := by omega
                  go_wp2_with fail
                  (refine wp_region_quiet_bw (by kernel_rfl) (by kernel_rfl) ?_
                   repeat (first | go_big_quiet_step (((go_at_call 27; with_reducible exact C1.out _))) | quiet_step (((go_at_call 27; with_reducible exact C1.out _))))
                   refine wpQuiet_nil ?_
                   intro wq hw'
                   obtain ⟨⟨_, hbq⟩, hw''⟩ := hw'
                   subst hw'')
                  have hB2 := hB.trans (hbq.mono hB.size)
                  clear hbq hB r0 r1 r2 r3 C1
                  go_wp2
                  go_roundw
                  case rel => exact ⟨j + 1, by omega, by go_num, hB2⟩
                  case measure => simp [intOf]; omega
                · obtain rfl : j = i := by omega
                  go_wp2
                  go_roundw
                  case rel => exact ⟨j + 1, by omega, by go_num, hB⟩
                  case measure => simp [intOf]; omega
            · obtain rfl : n1 = i := by omega
              obtain ⟨Wc, hWc⟩ : ∃ Wc : World, Wc = wr := ⟨_, rfl⟩
              subst hWc
              have hRc := hRb.up hB
              have hlc := hlb.up hB
              have hBc := bstep hBb hB
              clear hRb hlb hBb hB
              have hok5 : okMg out = true := okMg_of (by rw [HL1.out]; omega) (HMG.out.allV HVL.out)
              go_wp2_with fail
              refine (Merge_any A1 n1 c1 out Wc hRc (by omega)).mono ?_
              rintro e W5 ⟨out5, A5, n5, c5, E5, hm5, rfl, hn5, hR5, hB5⟩
              obtain ⟨hE5, hmg5⟩ := hm5.of_ok hok5
              subst hE5
              rw [HMG.out.again hmg5] at hR5
              have hR1 := hRc.up hB5
              have hl5 := hlc.up hB5
              have hB05 := bstep hBc hB5
              have HSA := hide (SameW_v A5 A1 n5 n1 c5 c1 out out W5 hR5 hR1 (by rw [HL1.out] at hn5; omega) (by omega) rfl)
              clear hm5 hmg5 hok5 hR5 hRc hlc hBc hB5 hn5
              go_wp2_with fail
              refine HSA.out.mono ?_
              rintro e W6 ⟨rfl, hB6⟩
              have hR1 := hR1.up hB6
              have hl6 := hl5.up hB6
              have hB06 := bstep hB05 hB6
              have hp6 := hp.up hB06
              clear HSA hl5 hB05 hB6
              have hlit := own_lit W6 35 2 0 #[] rfl (by unfold maxLen; omega) (Nat.le_refl W6.heap.size)
              have hBl := below_val (w := W6) #[] 35
              have hrd := hl6.alloc (Nat.le_refl _) (.cells #[] 35)
              have one : ∀ v ∈ flatW l, v.oneCell' = true := by
                intro v hv
                obtain ⟨x, _, hx⟩ := List.mem_flatMap.1 hv
                simp [encW] at hx
                rcases hx with rfl | rfl <;> rfl
              go_wp2_with (at_builtin; refine wpList_append_any _ rfl _ _ 22 rfl W6.heap.size 35 i0 _ 2 16 Try.underlying22 hi0 hz0 hz1 hz2 rfl (by decide) (.slice (some ⟨W6.heap.size, 0, none⟩) 0 0) 0 [] rfl hlit W6.heap.size A n c (flatW l) rfl hrd one (by unfold maxLen; omega) (by omega) (by simp) ?_; intro v' W7 hown hgrow _; rw [Nat.zero_add, List.nil_append] at hown)
              have hB7 : Below W6.heap.size W6 W7 := below_append hBl hlit (by simp) hgrow
              obtain ⟨A9, c9, rfl, hR9⟩ := own_form hown
              clear hlit hBl hrd one hgrow hR9
              go_loopw [16] (fun i wr => ∃ (k : Nat) (lr : List Wd), k ≤ n ∧ i = .int .i64 k ∧ lr.Perm l ∧ wr.ownsRow W6.heap.size 35 2 (.slice A9 n c9) n (flatW lr) ∧ Below W6.heap.size W6 wr) (fun i _ => n - (intOf i).toNat)
              case atStart => exact ⟨0, l, Nat.zero_le _, rfl, List.Perm.refl _, hown, hB7⟩
              case round =>
                clear hown hB7
                obtain ⟨k, lr, hk, rfl, hpm, hown, hB⟩ := hrel
                have HPM := hide hpm
                clear hpm
                by_cases hgo : k + 1 < n ∧ k < np
                · obtain ⟨hg1, hg2⟩ := hgo
                  obtain ⟨bp, op, pk, rfl, hbp, _, hcp⟩ := (hp6.below hB).at1 hg2
                  have q1 : (0 : Int) ≤ (k : Int) := by omega
                  have q2 : (k : Int) < (np : Int) := by omega
                  have q3 : (k : Int) + 1 < (n : Int) := by omega
                  have hu1 : 0 ≤ IntKind.u64.wrap pk := by rw [IntKind.wrap_u64]; omega
                  have hr1 := Int.tmod_nonneg ((n : Int) - (k : Int)) hu1
                  have hr2 := Int.tmod_lt_of_pos (IntKind.u64.wrap pk) (show 0 < (n : Int) - (k : Int) by omega)
                  obtain ⟨kk, hkw, hkk1, hkk2⟩ : ∃ kk : Nat, wrap64 ((k : Int) + wrap64 ((IntKind.u64.wrap pk).tmod ((n : Int) - (k : Int)))) = (kk : Int) ∧ k ≤ kk ∧ kk < n := by
                    obtain ⟨r, hr⟩ : ∃ r, (IntKind.u64.wrap pk).tmod ((n : Int) - (k : Int)) = r := ⟨_, rfl⟩
                    rw [hr] at hr1 hr2 ⊢
                    refine ⟨k + r.toNat, ?_, by omega, by omega⟩
                    rw [show wrap64 r = r by simp only [wrap64]; omega]
                    simp only [wrap64]
                    omega
                  clear hu1 hr1 hr2
                  obtain ⟨g9, cap9, hv9, _⟩ := hown.form (by omega)
                  injection hv9 with hv9 _ hv10
                  subst hv9 hv10
                  have hlr : lr.length = n := by have := hown.1; rw [flatW_len] at this; omega
                  obtain ⟨b1, o1, x, e, hb1, hxk, hcx⟩ := (Reads.of_own hown).elem (enc := encW) encW_len hlr (show k < n by omega)
                  injection e with e
                  injection e with e1 e2
                  subst e1 e2
                  obtain ⟨b1, o1, y, e, _, hyk, hcy⟩ := (Reads.of_own hown).elem (enc := encW) encW_len hlr hkk2
                  injection e with e
                  injection e with e1 e2
                  subst e1 e2
                  have x0 := hcx 0 _ rfl
                  have x1 := hcx 1 _ rfl
                  have y0 := hcy 0 _ rfl
                  have y1 := hcy 1 _ rfl
                  rw [Nat.zero_add] at x0 x1 y0 y1
                  have x0 : wr.cell? ⟨g9, k * 2, none⟩ = some (.int .i64 x.1) := x0
                  have x1 : wr.cell? ⟨g9, k * 2 + 1, none⟩ = some (.int .i64 x.2) := x1
                  have y0 : wr.cell? ⟨g9, kk * 2, none⟩ = some (.int .i64 y.1) := y0
                  have y1 : wr.cell? ⟨g9, kk * 2 + 1, none⟩ = some (.int .i64 y.2) := y1
                  have HPS := hide ((perm_swap hxk hyk).trans HPM.out)
                  have HXK := hide hxk
                  have hg9 : W6.heap.size ≤ g9 := (hown.lt g9 rfl).1
                  have hne1 : wr.heap.size ≠ g9 := by omega
                  have hne2 : wr.heap.size + 1 ≠ g9 := by omega
                  have hlt1 : k < n := by omega
                  clear hcx hcy hyk hxk
                  have q4 : (0 : Int) ≤ (kk : Int) := by omega
                  have q5 : (kk : Int) < (n : Int) := by omega
                  have q6 : (k : Int) < (n : Int) := by omega
                  go_upto_region 35 with fail
                  rw [hkw]
                  clear hkw hcp
                  go_wp2_with fail
                  go_region
                  · obtain ⟨X, hX⟩ : ∃ X, ((wr.alloc (.cells #[.int .i64 x.1, .int .i64 x.2] 35)).alloc (.cells #[.int .i64 y.1, .int .i64 y.2] 35)).drew = X := ⟨_, rfl⟩
                    have k1 : Blk X wr.heap.size 35 #[.int .i64 x.1, .int .i64 x.2] := by rw [← hX]; exact (Blk.new wr _ _).alloc _
                    have k2 : Blk X (wr.heap.size + 1) 35 #[.int .i64 y.1, .int .i64 y.2] := by
                      rw [← hX]; have := Blk.new (wr.alloc (.cells #[.int .i64 x.1, .int .i64 x.2] 35)) 35 #[.int .i64 y.1, .int .i64 y.2]; rw [World.size_alloc] at this; exact this
                    have hownX : X.ownsRow W6.heap.size 35 2 (.slice (some ⟨g9, 0, none⟩) n c9) n (flatW lr) := by rw [← hX]; exact ((hown.alloc _).alloc _).drew
                    have hBX : Below W6.heap.size W6 X := by rw [← hX]; exact ((hB.alloc hB.size _).alloc (Nat.le_trans hB.size (by rw [World.size_alloc]; omega)) _).drew
                    rw [hX]
                    have hs := Swp.of (y := y) (kk := kk) hownX HXK.out hlt1 hkk2
                    obtain ⟨s0, t0, ⟨u1, s1⟩, t1, ⟨u2, s2⟩, t2, ⟨u3, s3⟩, t3, s4⟩ := hs
                    have k1' := (k1.far (p := ⟨g9, k * 2, none⟩) hne1 (.int .i64 y.1)).far (p := ⟨g9, k * 2 + 1, none⟩) hne1 (.int .i64 y.2)
                    have k2' := (k2.far (p := ⟨g9, k * 2, none⟩) hne2 (.int .i64 y.1)).far (p := ⟨g9, k * 2 + 1, none⟩) hne2 (.int .i64 y.2)
                    have B4 := (((hBX.setCell (p := ⟨g9, k * 2, none⟩) hg9 (.int .i64 y.1)).setCell (p := ⟨g9, k * 2 + 1, none⟩) hg9 (.int .i64 y.2)).setCell (p := ⟨g9, kk * 2, none⟩) hg9 (.int .i64 x.1)).setCell (p := ⟨g9, kk * 2 + 1, none⟩) hg9 (.int .i64 x.2)
                    have S4 := hide s4
                    have HB4 := hide B4
                    have e0 := k1.cell 0
                    have e1 := k1.cell 1
                    have e2 := k2.cell 0
                    have e3 := k2.cell 1
                    have e4 := k1'.cell 0
                    have e5 := k1'.cell 1
                    have e6 := k2'.cell 0
                    have e7 := k2'.cell 1
                    simp at e0 e1 e2 e3 e4 e5 e6 e7
                    clear hX hown hB hownX hBX B4 s4 k1 k2 k1' k2' x0 x1 y0 y1
                    go_wp2
                    go_roundw
                    case rel => exact ⟨k + 1, _, by omega, by go_num, HPS.out, S4.out, HB4.out⟩
                    case measure => simp [intOf]; omega
                  · obtain ⟨X, hX⟩ : ∃ X, ((wr.alloc (.cells #[.int .i64 y.1, .int .i64 y.2] 35)).alloc (.cells #[.int .i64 x.1, .int .i64 x.2] 35)).drew = X := ⟨_, rfl⟩
                    have k1 : Blk X wr.heap.size 35 #[.int .i64 y.1, .int .i64 y.2] := by rw [← hX]; exact (Blk.new wr _ _).alloc _
                    have k2 : Blk X (wr.heap.size + 1) 35 #[.int .i64 x.1, .int .i64 x.2] := by
                      rw [← hX]; have := Blk.new (wr.alloc (.cells #[.int .i64 y.1, .int .i64 y.2] 35)) 35 #[.int .i64 x.1, .int .i64 x.2]; rw [World.size_alloc] at this; exact this
                    have hownX : X.ownsRow W6.heap.size 35 2 (.slice (some ⟨g9, 0, none⟩) n c9) n (flatW lr) := by rw [← hX]; exact ((hown.alloc _).alloc _).drew
                    have hBX : Below W6.heap.size W6 X := by rw [← hX]; exact ((hB.alloc hB.size _).alloc (Nat.le_trans hB.size (by rw [World.size_alloc]; omega)) _).drew
                    rw [hX]
                    have hs := Swp.of (y := y) (kk := kk) hownX HXK.out hlt1 hkk2
                    obtain ⟨s0, t0, ⟨u1, s1⟩, t1, ⟨u2, s2⟩, t2, ⟨u3, s3⟩, t3, s4⟩ := hs
                    have k1' := (k1.far (p := ⟨g9, k * 2, none⟩) hne1 (.int .i64 y.1)).far (p := ⟨g9, k * 2 + 1, none⟩) hne1 (.int .i64 y.2)
                    have k2' := (k2.far (p := ⟨g9, k * 2, none⟩) hne2 (.int .i64 y.1)).far (p := ⟨g9, k * 2 + 1, none⟩) hne2 (.int .i64 y.2)
                    have B4 := (((hBX.setCell (p := ⟨g9, k * 2, none⟩) hg9 (.int .i64 y.1)).setCell (p := ⟨g9, k * 2 + 1, none⟩) hg9 (.int .i64 y.2)).setCell (p := ⟨g9, kk * 2, none⟩) hg9 (.int .i64 x.1)).setCell (p := ⟨g9, kk * 2 + 1, none⟩) hg9 (.int .i64 x.2)
                    have S4 := hide s4
                    have HB4 := hide B4
                    have e0 := k1.cell 0
                    have e1 := k1.cell 1
                    have e2 := k2.cell 0
                    have e3 := k2.cell 1
                    have e4 := k1'.cell 0
                    have e5 := k1'.cell 1
                    have e6 := k2'.cell 0
                    have e7 := k2'.cell 1
                    simp at e0 e1 e2 e3 e4 e5 e6 e7
                    clear hX hown hB hownX hBX B4 s4 k1 k2 k1' k2' x0 x1 y0 y1
                    go_wp2
                    go_roundw
                    case rel => exact ⟨k + 1, _, by omega, by go_num, HPS.out, S4.out, HB4.out⟩
                    case measure => simp [intOf]; omega
                · by_cases h1 : k + 1 < n
                  · have h2 : ¬ k < np := fun h => hgo ⟨h1, h⟩
                    clear hgo
                    go_wp2_with fail
                    refine (Merge_any A9 n c9 lr wr (Reads.of_own hown) (by omega)).mono ?_
                    rintro e W8 ⟨out8, A8, n8, c8, E8, hm8, rfl, hn8, hR8, hB8⟩
                    obtain ⟨hE8, hmg8⟩ := hm8.of_ok (okMg_perm HPM.out HOK.out)
                    subst hE8
                    rw [(hmg8.perm HPM.out).one HMG.out] at hR8
                    have hn8' : n8 ≤ n := by rw [HPM.out.length_eq, HL.out] at hn8; exact hn8
                    have HSA := hide (SameW_v A8 A1 n8 n1 c8 c1 out out W8 hR8 ((hR1.up hB).up hB8) (by omega) (by omega) rfl)
                    have hB9 := bstep (bstep hB06 hB) hB8
                    clear hm8 hmg8 hR8 hB8 hB hown
                    go_wp2_with fail
                    refine HSA.out.mono ?_
                    rintro e W10 ⟨rfl, hB10⟩
                    have hB11 := bstep hB9 hB10
                    clear HSA hB9 hB10
                    go_wp2_with fail
                    refine (HAW.out W10).mono ?_
                    rintro e W12 ⟨rfl, hB12⟩
                    have HE := hide (bstep hB11 hB12)
                    clear hB11 hB12
                    go_wp2
                    go_ret
                    exact ⟨rfl, HE.out⟩
                  · clear hgo
                    go_wp2_with fail
                    refine (Merge_any A9 n c9 lr wr (Reads.of_own hown) (by omega)).mono ?_
                    rintro e W8 ⟨out8, A8, n8, c8, E8, hm8, rfl, hn8, hR8, hB8⟩
                    obtain ⟨hE8, hmg8⟩ := hm8.of_ok (okMg_perm HPM.out HOK.out)
                    subst hE8
                    rw [(hmg8.perm HPM.out).one HMG.out] at hR8
                    have hn8' : n8 ≤ n := by rw [HPM.out.length_eq, HL.out] at hn8; exact hn8
                    have HSA := hide (SameW_v A8 A1 n8 n1 c8 c1 out out W8 hR8 ((hR1.up hB).up hB8) (by omega) (by omega) rfl)
                    have hB9 := bstep (bstep hB06 hB) hB8
                    clear hm8 hmg8 hR8 hB8 hB hown
                    go_wp2_with fail
                    refine HSA.out.mono ?_
                    rintro e W10 ⟨rfl, hB10⟩
                    have hB11 := bstep hB9 hB10
                    clear HSA hB9 hB10
                    go_wp2_with fail
                    refine (HAW.out W10).mono ?_
                    rintro e W12 ⟨rfl, hB12⟩
                    have HE := hide (bstep hB11 hB12)
                    clear hB11 hB12
                    go_wp2
                    go_ret
                    exact ⟨rfl, HE.out⟩
  · have z5 : decide ((n : Int) ≤ 500) = false := by simp; omega
    go_enter Try.func7, Try.ntmps7
    go_wp2_with fail
    refine (short_any n w).mono ?_
    rintro e w' ⟨rfl, rfl⟩
    rw [z5]
    go_wp2_with fail
    refine (HAW.out w).mono ?_
    rintro e W1 ⟨rfl, hB1⟩
    go_wp2
    go_ret
    exact ⟨rfl, hB1⟩
end Go.Proofs.Ytehifbogadohgaa
