/-
  The walk of the reference's SortedEntries.
-/
import Derived.Test.YthngjbhamgmcgaaEnSoM
import Derived.Test.YthngjbhamgmcgaaQbw
import Derived.Test.YthngjbhamgmcgaaOrdT
namespace Go.Proofs.Ythngjbhamgmcgaa
open Go.RowKit
attribute [local go_sem] Oper.semAt_some
set_option linter.unusedVariables false

def RetSrt (w : World) (n : Nat) (l : List En) (e : Ending) (w' : World) : Prop := ∃ l' A' c', e = .returned (.slice A' n c') ∧ l'.Perm l ∧ SrtE l' ∧ Reads w' w'.heap.size 4 A' n (flatE l') ∧ Below w.heap.size w w'
def RetSrtO (w : World) (n : Nat) (l : List En) (e : Ending) (w' : World) : Prop := ∃ l' A' c', e = .returned (.slice A' n c') ∧ l'.Perm l ∧ SrtE l' ∧ w'.ownsRow w.heap.size 57 4 (.slice A' n c') n (flatE l') ∧ Below w.heap.size w w'
theorem one_cellE (l : List En) : ∀ v ∈ flatE l, v.oneCell' = true := by
  intro v hv
  obtain ⟨x, _, hx⟩ := List.mem_flatMap.1 hv
  simp [encE] at hx
  rcases hx with rfl | rfl | rfl | rfl <;> rfl
theorem infoE : (Try.prog.info? 57).map (fun i => (i.zero, i.size, i.bytes)) = some (some (.agg #[.int .i64 0, .string ByteArray.empty, .string ByteArray.empty, .string ByteArray.empty]), 4, 56) := by kernel_rfl
theorem info_parts4 {t : TypeId} {z : Value} {s b : Nat} (h : (Try.prog.info? t).map (fun i => (i.zero, i.size, i.bytes)) = some (some z, s, b)) : ∃ i, Try.prog.info? t = some i ∧ i.zero = some z ∧ i.size = s ∧ i.bytes = b := by
  obtain ⟨i, hi, hz⟩ := Option.map_eq_some_iff.1 h
  simp only [Prod.mk.injEq] at hz
  exact ⟨i, hi, hz.1, hz.2.1, hz.2.2⟩
set_option maxRecDepth 100000 in
set_option maxHeartbeats 8000000 in
theorem Sorted_own (A : Option Addr) (n c : Nat) (l : List En) (w : World) (hl : Reads w w.heap.size 4 A n (flatE l)) (hn : n ≤ 40000) :
    Calls Try.prog 59 #[.slice A n c] w (RetSrtO w n l) := by
  have HL := hide (show l.length = n from hl.len (enc := encE) encE_len (by omega))
  obtain ⟨i0, hi0, hz0, hz1, hz2⟩ := info_parts4 infoE
  have hlit := own_lit w 57 4 0 #[] rfl (by unfold maxLen; omega) (Nat.le_refl w.heap.size)
  have hBl := below_val (w := w) #[] 57
  have hrd := hl.alloc (Nat.le_refl _) (.cells #[] 57)
  have one := one_cellE l
  go_enter Try.func59, Try.ntmps59
  go_wp2_with (at_builtin; refine wpList_append_any _ rfl _ _ 50 rfl w.heap.size 57 i0 _ 4 56 Try.underlying50 hi0 hz0 hz1 hz2 rfl (by decide) (.slice (some ⟨w.heap.size, 0, none⟩) 0 0) 0 [] rfl hlit w.heap.size A n c (flatE l) rfl hrd one (by unfold maxLen; omega) (by omega) (by simp) ?_; intro v' W7 hown hgrow _; rw [Nat.zero_add, List.nil_append] at hown)
  have hB7 : Below w.heap.size w W7 := below_append hBl hlit (by simp) hgrow
  obtain ⟨A9, c9, rfl, hR9⟩ := own_form hown
  clear hlit hBl hrd one hgrow hR9
  go_loopw [4] (fun i wr => ∃ (m : Nat) (lr : List En), 1 ≤ m ∧ m ≤ n + 1 ∧ i = .int .i64 (m : Int) ∧ lr.Perm l ∧ SrtE (lr.take m) ∧ wr.ownsRow w.heap.size 57 4 (.slice A9 n c9) n (flatE lr) ∧ Below w.heap.size w wr) (fun i _ => n + 1 - (intOf i).toNat)
  case atStart => exact ⟨1, l, Nat.le_refl _, by omega, rfl, List.Perm.refl _, (by cases l with
    | nil => exact List.Pairwise.nil
    | cons x l => exact List.pairwise_singleton _ _), hown, hB7⟩
  case round =>
    clear hown hB7
    obtain ⟨m, lr, hm1, hm2, rfl, hpm, hsr, hown, hB⟩ := hrel
    have HPM := hide hpm
    have HSR := hide hsr
    clear hpm hsr
    have hlr : lr.length = n := by have := hown.1; rw [flatE_len] at this; omega
    have HLR := hide hlr
    clear hlr
    by_cases hlt : m < n
    · have HI0 := hide (InsE.start HSR.out (by rw [HLR.out]; exact hlt))
      have q1 : (0 : Int) ≤ (m : Int) := by omega
      have q2 : (m : Int) < (n : Int) := by omega
      go_wp2_with fail
      go_loopw [5] (fun i wx => ∃ (j : Nat) (lq : List En), j ≤ m ∧ i = .int .i64 (j : Int) ∧ lq.Perm l ∧ InsE lq j m ∧ wx.ownsRow w.heap.size 57 4 (.slice A9 n c9) n (flatE lq) ∧ Below w.heap.size w wx) (fun i _ => (intOf i).toNat)
      case atStart => exact ⟨m, lr, Nat.le_refl _, rfl, HPM.out, HI0.out, hown, hB⟩
      case round =>
        clear hown hB
        obtain ⟨j0, lq, hj, rfl, hpm, hins, hown, hB⟩ := hrel
        have HPQ := hide hpm
        have HINS := hide hins
        clear hpm hins
        rcases Nat.eq_zero_or_pos j0 with hj0 | hj0
        · subst hj0
          have HX := hide HINS.out.zero
          go_wp2_with fail
          go_quiet (fail)
          have hown2 : (wr.drewN nq).ownsRow _ _ _ _ _ _ := hown
          have HB2 := hide (below_drewN hB nq)
          have HO2 := hide hown2
          clear hown hown2 hB
          go_wp2
          go_roundw
          case rel => exact ⟨m + 1, lq, by omega, by omega, by go_num, HPQ.out, HX.out, HO2.out, HB2.out⟩
          case measure => simp [intOf] <;> omega
        · obtain ⟨j, rfl⟩ : ∃ j, j0 = j + 1 := ⟨j0 - 1, by omega⟩
          clear hj0
          obtain ⟨g9, cap9, hv9, _⟩ := hown.form (by omega)
          injection hv9 with hv9 _ hv10
          subst hv9 hv10
          have hlq : lq.length = n := by have := hown.1; rw [flatE_len] at this; omega
          obtain ⟨y, hy⟩ : ∃ y, lq[j]? = some y := ⟨_, List.getElem?_eq_getElem (by omega)⟩
          obtain ⟨x, hx⟩ : ∃ x, lq[j + 1]? = some x := ⟨_, List.getElem?_eq_getElem (by omega)⟩
          have HYK := hide hy
          have HXK := hide hx
          clear hx hy hlq
          have hg9 : g9 < wr.heap.size := (hown.lt g9 rfl).2
          have hge : w.heap.size ≤ g9 := (hown.lt g9 rfl).1
          have c0 : wr.cell? ⟨g9, j * 4, none⟩ = some (.int .i64 y.g) := own_cell hown (flatE_get HYK.out).1
          have c1 : wr.cell? ⟨g9, j * 4 + 1, none⟩ = some (.string y.nm) := own_cell hown (flatE_get HYK.out).2.1
          have c2 : wr.cell? ⟨g9, j * 4 + 2, none⟩ = some (.string y.ky) := own_cell hown (flatE_get HYK.out).2.2.1
          have c3 : wr.cell? ⟨g9, j * 4 + 3, none⟩ = some (.string y.vl) := own_cell hown (flatE_get HYK.out).2.2.2
          have d0 : wr.cell? ⟨g9, (j + 1) * 4, none⟩ = some (.int .i64 x.g) := own_cell hown (flatE_get HXK.out).1
          have d1 : wr.cell? ⟨g9, (j + 1) * 4 + 1, none⟩ = some (.string x.nm) := own_cell hown (flatE_get HXK.out).2.1
          have d2 : wr.cell? ⟨g9, (j + 1) * 4 + 2, none⟩ = some (.string x.ky) := own_cell hown (flatE_get HXK.out).2.2.1
          have d3 : wr.cell? ⟨g9, (j + 1) * 4 + 3, none⟩ = some (.string x.vl) := own_cell hown (flatE_get HXK.out).2.2.2

          have w1 : ((j + 1 : Nat) : Int) - 1 = (j : Int) := by omega
          have w2 : IntKind.i64.wrap (((j + 1 : Nat) : Int) - 1) = (j : Int) := by rw [w1, IntKind.wrap_i64]; omega
          have q3 : (0 : Int) ≤ (j : Int) := by omega
          have q4 : (j : Int) < (n : Int) := by omega
          have q5 : (0 : Int) < ((j + 1 : Nat) : Int) := by omega
          have q6 : ((j + 1 : Nat) : Int) < (n : Int) := by omega
          obtain ⟨cc, hcc⟩ : ∃ cc, cmE y x = cc := ⟨_, rfl⟩
          have HCC := hide hcc
          have C1 := hide (fun (p : BW wr) => calls_bw (p := p) (v := .int .i64 cc) (by rw [← hcc]; exact RCompareE_any y x p.x))
          clear hcc
          have r0 := fun (p : BW wr) => BW.cell (a := ⟨g9, j * 4, none⟩) hg9 c0 p
          have r1 := fun (p : BW wr) => BW.cell (a := ⟨g9, j * 4 + 1, none⟩) hg9 c1 p
          have r2 := fun (p : BW wr) => BW.cell (a := ⟨g9, j * 4 + 2, none⟩) hg9 c2 p
          have r3 := fun (p : BW wr) => BW.cell (a := ⟨g9, j * 4 + 3, none⟩) hg9 c3 p
          have s0 := fun (p : BW wr) => BW.cell (a := ⟨g9, (j + 1) * 4, none⟩) hg9 d0 p
          have s1 := fun (p : BW wr) => BW.cell (a := ⟨g9, (j + 1) * 4 + 1, none⟩) hg9 d1 p
          have s2 := fun (p : BW wr) => BW.cell (a := ⟨g9, (j + 1) * 4 + 2, none⟩) hg9 d2 p
          have s3 := fun (p : BW wr) => BW.cell (a := ⟨g9, (j + 1) * 4 + 3, none⟩) hg9 d3 p

          by_cases hc : 0 < cc
          · have z : decide (0 < cc) = true := by simpa using hc
            have HGO := hide (HINS.out.go HYK.out HXK.out (by rw [HCC.out]; omega))
            have HPS := hide ((perm_swap HYK.out HXK.out).trans HPQ.out)
            go_wp2_with fail
            (refine wp_region_quiet_bw (by kernel_rfl) (by kernel_rfl) ?_
             repeat (first | go_big_quiet_step (((go_at_call 35; with_reducible exact C1.out _))) | quiet_step (((go_at_call 35; with_reducible exact C1.out _))))
             refine wpQuiet_nil ?_
             intro wq hw'
             obtain ⟨⟨_, hbq⟩, hw''⟩ := hw'
             subst hw'')
            obtain ⟨X, hX⟩ : ∃ X, wq = X := ⟨_, rfl⟩
            rw [hX] at hbq ⊢
            have hownX := own_below hown hbq
            have hBX := hB.trans (hbq.mono hB.size)
            have my0 : X.cell? ⟨g9, j * 4, none⟩ = some (.int .i64 y.g) := own_cell hownX (flatE_get HYK.out).1
            have my1 : X.cell? ⟨g9, j * 4 + 1, none⟩ = some (.string y.nm) := own_cell hownX (flatE_get HYK.out).2.1
            have my2 : X.cell? ⟨g9, j * 4 + 2, none⟩ = some (.string y.ky) := own_cell hownX (flatE_get HYK.out).2.2.1
            have my3 : X.cell? ⟨g9, j * 4 + 3, none⟩ = some (.string y.vl) := own_cell hownX (flatE_get HYK.out).2.2.2
            have mx0 : X.cell? ⟨g9, (j + 1) * 4, none⟩ = some (.int .i64 x.g) := own_cell hownX (flatE_get HXK.out).1
            have mx1 : X.cell? ⟨g9, (j + 1) * 4 + 1, none⟩ = some (.string x.nm) := own_cell hownX (flatE_get HXK.out).2.1
            have mx2 : X.cell? ⟨g9, (j + 1) * 4 + 2, none⟩ = some (.string x.ky) := own_cell hownX (flatE_get HXK.out).2.2.1
            have mx3 : X.cell? ⟨g9, (j + 1) * 4 + 3, none⟩ = some (.string x.vl) := own_cell hownX (flatE_get HXK.out).2.2.2

            clear hX C1 hc hown hB hbq c0 c1 c2 c3 d0 d1 d2 d3 r0 r1 r2 r3 s0 s1 s2 s3
            have h8 := St8.of (a := x) (b := y) (i := j) (j := j + 1) hownX (by omega) (by omega)
            obtain ⟨⟨u0, k0⟩, f0, ⟨u1, k1⟩, f1, ⟨u2, k2⟩, f2, ⟨u3, k3⟩, f3, ⟨u4, k4⟩, f4, ⟨u5, k5⟩, f5, ⟨u6, k6⟩, f6, ⟨u7, k7⟩, f7, hown8⟩ := h8
            have HB8 := hide ((((((((hBX.setCell (p := ⟨g9, j * 4, none⟩) hge (.int .i64 x.g)).setCell (p := ⟨g9, j * 4 + 1, none⟩) hge (.string x.nm)).setCell (p := ⟨g9, j * 4 + 2, none⟩) hge (.string x.ky)).setCell (p := ⟨g9, j * 4 + 3, none⟩) hge (.string x.vl)).setCell (p := ⟨g9, (j + 1) * 4, none⟩) hge (.int .i64 y.g)).setCell (p := ⟨g9, (j + 1) * 4 + 1, none⟩) hge (.string y.nm)).setCell (p := ⟨g9, (j + 1) * 4 + 2, none⟩) hge (.string y.ky)).setCell (p := ⟨g9, (j + 1) * 4 + 3, none⟩) hge (.string y.vl))
            have HO8 := hide hown8
            clear hown8 hownX hBX k0 k1 k2 k3
            go_wp2_with fail
            go_region
            all_goals
              clear f0 f1 f2 f3 f4 f5 f6 f7 k4 k5 k6 k7 my0 my1 my2 my3 mx0 mx1 mx2 mx3
              go_wp2
              go_roundw
              case rel => exact ⟨j, _, by omega, by go_num, HPS.out, HGO.out, HO8.out.drew, HB8.out.drew⟩
              case measure => simp [intOf] <;> omega
          · have z : decide (0 < cc) = false := by simpa using hc
            have HX := hide (HINS.out.stop HYK.out HXK.out (by rw [HCC.out]; omega))
            go_wp2_with fail
            (refine wp_region_quiet_bw (by kernel_rfl) (by kernel_rfl) ?_
             repeat (first | go_big_quiet_step (((go_at_call 35; with_reducible exact C1.out _))) | quiet_step (((go_at_call 35; with_reducible exact C1.out _))))
             refine wpQuiet_nil ?_
             intro wq hw'
             obtain ⟨⟨_, hbq⟩, hw''⟩ := hw'
             subst hw'')
            have HO2 := hide (own_below hown hbq)
            have HB2 := hide (hB.trans (hbq.mono hB.size))
            clear C1 hc hown hB hbq c0 c1 c2 c3 d0 d1 d2 d3 r0 r1 r2 r3 s0 s1 s2 s3
            go_wp2
            go_roundw
            case rel => exact ⟨m + 1, lq, by omega, by omega, by go_num, HPQ.out, HX.out, HO2.out, HB2.out⟩
            case measure => simp [intOf] <;> omega
    · have HX := hide (show SrtE lr by have := HSR.out; rwa [List.take_of_length_le (by rw [HLR.out]; omega)] at this)
      have HRR := hide hown
      clear hown
      go_wp2
      go_ret
      exact ⟨lr, A9, c9, rfl, HPM.out, HX.out, HRR.out, hB⟩
theorem Sorted_any (A : Option Addr) (n c : Nat) (l : List En) (w : World) (hl : Reads w w.heap.size 4 A n (flatE l)) (hn : n ≤ 40000) :
    Calls Try.prog 59 #[.slice A n c] w (RetSrt w n l) :=
  (Sorted_own A n c l w hl hn).mono fun e w' ⟨l', A', c', he, hp, hs, ho, hB⟩ => ⟨l', A', c', he, hp, hs, Reads.of_own ho, hB⟩
end Go.Proofs.Ythngjbhamgmcgaa
