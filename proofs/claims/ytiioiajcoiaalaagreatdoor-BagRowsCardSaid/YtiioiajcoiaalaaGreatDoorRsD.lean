/-
  The walk of the reference's Project of a bag.
-/
import Derived.Test.YtiioiajcoiaalaaGreatDoorRsC
namespace Go.Proofs.YtiioiajcoiaalaaGreatDoor
open Go.RowKit
attribute [local go_sem] Oper.semAt_some
set_option linter.unusedVariables false
set_option linter.unusedSimpArgs false

/-- What the reference asks of a column. -/
def pjP (d : Bg) (c : Int) : Bool := btw c 0 7 && d.all fun x => decide (c < (x.1.length : Int))
theorem pjX_at {d : Bg} {cols : List Int} {k : Nat} {x : Rw × Int} (h : d[k]? = some x) : (pjX d cols)[k]? = some (pick x.1 cols, x.2) := by unfold pjX; rw [List.getElem?_map, h]; rfl
theorem pjX_len (d : Bg) (cols : List Int) : (pjX d cols).length = d.length := by simp [pjX]
set_option maxRecDepth 100000 in
set_option maxHeartbeats 8000000 in
theorem RBgProject_any (A : Option Addr) (n c : Nat) (l : List It) (A' : Option Addr) (n' c' : Nat) (cols : List Int) (w : World) (hb : BagR w w.heap.size A n l) (hcr : Reads w w.heap.size 1 A' n' (cols.map (Value.int .i64))) (hn' : n' ≤ 9223372036854775807) :
    Calls Tryz.prog 34 #[.slice A n c, .slice A' n' c'] w (RetC w (pjB (dat l) cols)) := by
  obtain ⟨p, hp⟩ : ∃ p, pjB (dat l) cols = p := ⟨_, rfl⟩
  rw [hp]
  have HP := hide hp
  clear hp
  have HLC := hide hcr.len1
  have HLB := hide hb.len
  have hbl := hb.le
  go_enter Tryz.func34, Tryz.ntmps34
  go_wp2_with fail
  refine (R3Valid_any A n c _ l w hb).mono ?_
  rintro e W1 ⟨rfl, hB1⟩
  cases oa : okBag (dat l)
  · have HQ := hide (show p = ([], 1) by rw [← HP.out]; unfold pjB; rw [oa]; rfl)
    clear oa
    go_wp2
    go_ret2
    rw [HQ.out]
    exact ⟨none, 0, 0, [], rfl, rfl, BagR.nil _ _, Nat.le_refl _, hB1⟩
  have OA := hide oa
  have hb1 := (hb.below hB1).mono hB1.size
  have hc1 := hcr.up hB1
  have HB1 := hide hB1
  have HBAD := hide (show (cols.all (pjP (dat l))) = false → p = ([], 7) from fun h => by
    rw [← HP.out]
    unfold pjB
    rw [OA.out, pj_bad]
    have h' : (cols.all fun c => btw c 0 7 && (dat l).all fun x => decide (c < (x.1.length : Int))) = false := h
    rw [h']
    rfl)
  have hn4 : n ≤ 400 := by have := (okBag_asc oa).2.2; rw [dat_len, hb.len] at this; exact this
  clear oa hb hcr hB1
  go_wp2_with fail
  go_loopw [6] (fun i wr => ∃ k : Nat, k ≤ n' ∧ i = .int .i64 k ∧ (cols.take k).all (pjP (dat l)) = true ∧ Below W1.heap.size W1 wr) (fun i _ => n' - (intOf i).toNat)
  case atStart => exact ⟨0, Nat.zero_le _, rfl, rfl, Below.refl _ _⟩
  case round =>
    obtain ⟨k, hk, rfl, hal, hBw⟩ := hrel
    have HAL := hide hal
    clear hal
    by_cases hlt : k < n'
    · obtain ⟨b, off, x, rfl, hbb, hxk, c0⟩ := (hc1.below hBw).at1 hlt
      have HXK := hide hxk
      have q1 : (0 : Int) ≤ (k : Int) := by omega
      have q2 : (k : Int) < (n' : Int) := by omega
      obtain ⟨bt, hbt⟩ : ∃ bt, btw x 0 7 = bt := ⟨_, rfl⟩
      have HW := hide (hbt ▸ R3within_any x 0 7 wr)
      have HBT := hide hbt
      clear hxk hbt
      go_wp2_with fail
      refine HW.out.mono ?_
      rintro e wr' ⟨rfl, rfl⟩
      cases bt
      · have HQ := hide (HBAD.out (by rw [List.all_eq_false]; exact ⟨x, List.mem_of_getElem? HXK.out, by unfold pjP; rw [HBT.out, Bool.false_and]; decide⟩))
        have HE := hide (bstep HB1.out hBw)
        clear hBw c0 HW
        go_wp2
        go_ret2
        rw [HQ.out]
        exact ⟨none, 0, 0, [], rfl, rfl, BagR.nil _ _, Nat.le_refl _, HE.out⟩
      clear HW
      go_wp2_with fail
      go_loopw [7] (fun i wx => ∃ j : Nat, j ≤ n ∧ i = .int .i64 j ∧ ((dat l).take j).all (fun y => decide (x < (y.1.length : Int))) = true ∧ Below W1.heap.size W1 wx) (fun i _ => n - (intOf i).toNat)
      case atStart => exact ⟨0, Nat.zero_le _, rfl, rfl, hBw⟩
      case round =>
        clear hBw c0
        obtain ⟨j, hj, rfl, hal, hBw⟩ := hrel
        have HAJ := hide hal
        clear hal
        by_cases hlt2 : j < n
        · obtain ⟨b2, off2, y, rfl, hb2, hyk, e0, e1, hy⟩ := (hb1.below hBw).at_ hlt2
          obtain ⟨b', off', x', hA', hbb', hxk', c0'⟩ := (hc1.below hBw).at1 hlt
          obtain ⟨rfl, rfl⟩ : b = b' ∧ off = off' := by
            injection hA' with h
            injection h with h1 h2
            exact ⟨h1, h2⟩
          obtain rfl : x = x' := by have := HXK.out; rw [hxk'] at this; injection this with this; exact this.symm
          have HYK := hide (dat_at hyk)
          have HYL := hide (show ((y.r.length : Nat) : Int) = (y.n : Int) by rw [hy.len])
          have q3 : (0 : Int) ≤ (j : Int) := by omega
          have q4 : (j : Int) < (n : Int) := by omega
          clear hyk hA' hxk' hy
          by_cases hl : (y.n : Int) ≤ x
          · have z : decide ((y.n : Int) ≤ x) = true := by simpa using hl
            have HQ := hide (HBAD.out (by
              rw [List.all_eq_false]
              refine ⟨x, List.mem_of_getElem? HXK.out, ?_⟩
              unfold pjP
              rw [HBT.out, Bool.true_and, Bool.not_eq_true, List.all_eq_false]
              exact ⟨_, List.mem_of_getElem? HYK.out, by simp only [decide_eq_true_eq]; have := HYL.out; omega⟩))
            clear hl
            go_wp2_with fail
            go_quiet (fail)
            have HE := hide (below_drewN (bstep HB1.out hBw) nq)
            clear hBw e0 e1 c0'
            go_wp2
            go_ret2
            rw [HQ.out]
            exact ⟨none, 0, 0, [], rfl, rfl, BagR.nil _ _, Nat.le_refl _, HE.out⟩
          · have z : decide ((y.n : Int) ≤ x) = false := by simpa using hl
            have HX := hide (show ((dat l).take (j + 1)).all (fun y => decide (x < (y.1.length : Int))) = true by
              rw [take_snoc' HYK.out, List.all_append, HAJ.out]
              simp only [List.all_cons, List.all_nil, Bool.and_true, Bool.true_and, decide_eq_true_eq]
              have := HYL.out
              omega)
            clear hl
            go_wp2_with fail
            go_quiet (fail)
            have HE := hide (below_drewN hBw nq)
            clear hBw e0 e1 c0'
            go_wp2
            go_roundw
            case rel => exact ⟨j + 1, by omega, by go_num, HX.out, HE.out⟩
            case measure => simp [intOf] <;> omega
        · obtain rfl : j = n := by omega
          have HX := hide (show (cols.take (k + 1)).all (pjP (dat l)) = true by
            rw [take_snoc' HXK.out, List.all_append, HAL.out]
            have := HAJ.out
            rw [take_all (by rw [dat_len]; exact HLB.out)] at this
            simp only [List.all_cons, List.all_nil, Bool.and_true, Bool.true_and]
            unfold pjP
            rw [HBT.out, this]
            rfl)
          have HE := hide hBw
          clear hBw
          go_wp2
          go_roundw
          case rel => exact ⟨k + 1, by omega, by go_num, HX.out, HE.out⟩
          case measure => simp [intOf] <;> omega
    · obtain rfl : k = n' := by omega
      have HALL := hide (show cols.all (pjP (dat l)) = true by have := HAL.out; rwa [take_all HLC.out] at this)
      have HNB := hide (show (cols.any (fun c => !btw c 0 7) || (dat l).any fun x => !okC x.1.length cols) = false by
        rw [pj_bad]
        have h' : (cols.all fun c => btw c 0 7 && (dat l).all fun x => decide (c < (x.1.length : Int))) = true := HALL.out
        rw [h']
        rfl)
      by_cases h8 : k ≤ 8
      · have q8 : ¬ (8 : Int) < (k : Int) := by omega
        have hl8 : cols.length ≤ 8 := by rw [HLC.out]; exact h8
        have HQ := hide (show p = toldB (aftB [] (pjX (dat l) cols)) by rw [← HP.out]; unfold pjB; rw [OA.out, HNB.out]; simp only [if_true]; rw [if_neg (by decide), if_pos hl8])
        have hXok : ∀ y ∈ pjX (dat l) cols, okR y.1 = true := fun y hy => by
          obtain ⟨x, hx, rfl⟩ := List.mem_map.1 hy
          exact pick_ok ((okBag_asc OA.out).1.ok x hx) hl8
        have HXok := hide hXok
        have HXnum := hide (show ∀ y ∈ pjX (dat l) cols, -1000000 ≤ y.2 ∧ y.2 ≤ 1000000 from fun y hy => by
          obtain ⟨x, hx, rfl⟩ := List.mem_map.1 hy
          exact (numB_ne ((okBag_asc OA.out).2.1 x hx)).2)
        have HXL := hide (show (pjX (dat l) cols).length = n by rw [pjX_len, dat_len]; exact HLB.out)
        clear hXok
        go_wp2_with fail
        go_loopw [8, 9] (fun v i wx => ∃ (j : Nat) (A2 : Option Addr) (n2 c2 : Nat) (l2 : List It), j ≤ n ∧ i = .int .i64 j ∧ .slice A2 n2 c2 = v ∧ BagR wx wx.heap.size A2 n2 l2 ∧ n2 ≤ c2 ∧ dat l2 = aftB [] ((pjX (dat l) cols).take j) ∧ Below W1.heap.size W1 wx) (fun _ i _ => n - (intOf i).toNat)
        case atStart => exact ⟨0, none, 0, 0, [], Nat.zero_le _, rfl, rfl, BagR.nil _ _, Nat.le_refl _, rfl, hBw⟩
        case round =>
          clear hBw
          obtain ⟨j, A2, n2, c2, l2, hj, rfl, rfl, hbg, hcp, hdl, hBw⟩ := hrel
          by_cases hlt2 : j < n
          · obtain ⟨b, off, y0, rfl, hb2, hyk, e0, e1, hy⟩ := (hb1.below hBw).at_ hlt2
            have HYK := hide (dat_at hyk)
            have hyx := pjX_at (cols := cols) HYK.out
            have hym := numB_ne ((okBag_asc OA.out).2.1 _ (List.mem_of_getElem? HYK.out))
            have HN := hide (show aftB [] ((pjX (dat l) cols).take (j + 1)) = putB (dat l2) (pick y0.r cols) y0.m from by rw [take_snoc' hyx, aft_snoc, hdl])
            have hnl : n2 ≤ 2000 := by
              have := aft0_len HXok.out j (by rw [HXL.out]; exact hj)
              rw [← hdl, dat_len, hbg.len] at this
              omega
            have HR := hide (show ∀ z ∈ dat l2, z.1.length ≤ 1000 from fun z hz => by
              rw [hdl] at hz
              have h1 := okR_len ((aft0 HXok.out j).asc.ok z hz)
              omega)
            have HM := hide (show ∀ z ∈ dat l2, -4000000000000 ≤ z.2 ∧ z.2 ≤ 4000000000000 from fun z hz => by rw [hdl] at hz; exact aft0_num HXok.out HXnum.out (by rw [HXL.out]; omega) j z hz)
            have HCK := hide (show ∀ (i : Nat) (x : Int), cols[i]? = some x → 0 ≤ x ∧ x ≤ (y0.n : Int) - 1 from fun i x hx => by
              have h1 := List.all_eq_true.1 HALL.out x (List.mem_of_getElem? hx)
              unfold pjP at h1
              rw [Bool.and_eq_true, List.all_eq_true] at h1
              have h2 := btw_iff.1 h1.1
              have h3 := of_decide_eq_true (h1.2 _ (List.mem_of_getElem? HYK.out))
              have h4 := hy.len
              simp only at h3
              omega)
            have q1 : (0 : Int) ≤ (j : Int) := by omega
            have q2 : (j : Int) < (n : Int) := by omega
            have HPK := hide (fun (X : World) (hX : Below wr.heap.size wr X) => Picks_any y0.A y0.n y0.c y0.r A' k c' cols X (hy.below hX).rd hy.le ((hc1.below (hBw.trans (hX.mono hBw.size))).more (Nat.le_trans hBw.size hX.size)) (by omega) HCK.out)
            clear hyx hyk hdl HCK
            go_wp2_with fail
            refine Held.begin (fun y => y.cell? ⟨b, off + j * 2, none⟩ = some (.slice y0.A y0.n y0.c) ∧ y.cell? ⟨b, off + j * 2 + 1, none⟩ = some (.int .i64 y0.m)) 100 (by kernel_rfl) ?_
            obtain ⟨X1, hX1⟩ : ∃ X1, wr.drew = X1 := ⟨_, rfl⟩
            have hD : Below wr.heap.size wr X1 := by rw [← hX1]; exact (Below.refl _ _).drew
            have hS : X1.cell? ⟨b, off + j * 2, none⟩ = some (.slice y0.A y0.n y0.c) ∧ X1.cell? ⟨b, off + j * 2 + 1, none⟩ = some (.int .i64 y0.m) := by rw [← hX1]; exact ⟨e0, e1⟩
            rw [hX1]
            clear hX1 e0 e1
            refine Held.take (i := 0) (.slice A2 n2 c2) rfl hS (by kernel_rfl) (by kernel_rfl) (by kernel_rfl) (by kernel_rfl) (fun _ _ _ h => h) rfl (fun y hy => by obtain ⟨x1, x2⟩ := hy; go_simp) ?_
            try simp only [Act.put]
            refine Held.take (i := 1) (.slice (some ⟨b, off, none⟩) n c) rfl hS (by kernel_rfl) (by kernel_rfl) (by kernel_rfl) (by kernel_rfl) (fun _ _ _ h => h) rfl (fun y hy => by obtain ⟨x1, x2⟩ := hy; go_simp) ?_
            try simp only [Act.put]
            refine Held.take (i := 2) (.int .i64 (j : Int)) rfl hS (by kernel_rfl) (by kernel_rfl) (by kernel_rfl) (by kernel_rfl) (fun _ _ _ h => h) rfl (fun y hy => by obtain ⟨x1, x2⟩ := hy; go_simp) ?_
            try simp only [Act.put]
            refine Held.take (i := 3) (.pointer (some ⟨b, off + j * 2, none⟩)) rfl hS (by kernel_rfl) (by kernel_rfl) (by kernel_rfl) (by kernel_rfl) (fun _ _ _ h => h) rfl (fun y hy => by obtain ⟨x1, x2⟩ := hy; go_simp) ?_
            try simp only [Act.put]
            refine Held.take (i := 4) (.pointer (some ⟨b, off + j * 2, none⟩)) rfl hS (by kernel_rfl) (by kernel_rfl) (by kernel_rfl) (by kernel_rfl) (fun _ _ _ h => h) rfl (fun y hy => by obtain ⟨x1, x2⟩ := hy; go_simp) ?_
            try simp only [Act.put]
            refine Held.take (i := 5) (.slice y0.A y0.n y0.c) rfl hS (by kernel_rfl) (by kernel_rfl) (by kernel_rfl) (by kernel_rfl) (fun _ _ _ h => h) rfl (fun y hy => by obtain ⟨x1, x2⟩ := hy; go_simp) ?_
            try simp only [Act.put]
            refine Held.take (i := 6) (.slice A' k c') rfl hS (by kernel_rfl) (by kernel_rfl) (by kernel_rfl) (by kernel_rfl) (fun _ _ _ h => h) rfl (fun y hy => by obtain ⟨x1, x2⟩ := hy; go_simp) ?_
            try simp only [Act.put]
            refine Held.take (i := 8) (.slice (some ⟨b, off, none⟩) n c) rfl hS (by kernel_rfl) (by kernel_rfl) (by kernel_rfl) (by kernel_rfl) (fun _ _ _ h => h) rfl (fun y hy => by obtain ⟨x1, x2⟩ := hy; go_simp) ?_
            try simp only [Act.put]
            refine Held.take (i := 9) (.int .i64 (j : Int)) rfl hS (by kernel_rfl) (by kernel_rfl) (by kernel_rfl) (by kernel_rfl) (fun _ _ _ h => h) rfl (fun y hy => by obtain ⟨x1, x2⟩ := hy; go_simp) ?_
            try simp only [Act.put]
            refine Held.take (i := 10) (.pointer (some ⟨b, off + j * 2, none⟩)) rfl hS (by kernel_rfl) (by kernel_rfl) (by kernel_rfl) (by kernel_rfl) (fun _ _ _ h => h) rfl (fun y hy => by obtain ⟨x1, x2⟩ := hy; go_simp) ?_
            try simp only [Act.put]
            refine Held.take (i := 11) (.pointer (some ⟨b, off + j * 2 + 1, none⟩)) rfl hS (by kernel_rfl) (by kernel_rfl) (by kernel_rfl) (by kernel_rfl) (fun _ _ _ h => h) rfl (fun y hy => by obtain ⟨x1, x2⟩ := hy; go_simp) ?_
            try simp only [Act.put]
            refine Held.take (i := 12) (.int .i64 y0.m) rfl hS (by kernel_rfl) (by kernel_rfl) (by kernel_rfl) (by kernel_rfl) (fun _ _ _ h => h) rfl (fun y hy => by obtain ⟨x1, x2⟩ := hy; go_simp) ?_
            try simp only [Act.put]
            refine Held.one (i := 7) rfl (by kernel_rfl) rfl (fun K hK => ?_)
            unfold Oper.wp
            go_simp
            refine (HPK.out X1 hD).mono ?_
            rintro e X2 ⟨Ap, cp, rfl, hrd, hB2⟩
            have hrow : RowK X2 X2.heap.size Ap k (pick y0.r cols) := RowK.of_reads hrd (Nat.le_refl _) hn'
            have hS2 : X2.cell? ⟨b, off + j * 2, none⟩ = some (.slice y0.A y0.n y0.c) ∧ X2.cell? ⟨b, off + j * 2 + 1, none⟩ = some (.int .i64 y0.m) := ⟨(hB2.cell (World.block_lt_of_cell? _ _ hS.1)).trans hS.1, (hB2.cell (World.block_lt_of_cell? _ _ hS.2)).trans hS.2⟩
            refine hK _ _ (fun _ => hS2) ?_
            try simp only [Act.put]
            have hD2 := bstep hD hB2
            clear hK K hS hrd hB2 hD HPK
            have hS := hS2
            clear hS2
            refine Held.one (i := 13) rfl (by kernel_rfl) rfl (fun K hK => ?_)
            unfold Oper.wp
            go_simp
            refine (RPut_any A2 n2 c2 l2 Ap k cp (pick y0.r cols) y0.m X2 ((hbg.below hD2).mono hD2.size) hnl hrow (by omega) HR.out HM.out (by omega)).mono ?_
            rintro e X3 ⟨A2', n2', c2', l2', rfl, hd2, hb2, hc2, hB3⟩
            have hS3 : X3.cell? ⟨b, off + j * 2, none⟩ = some (.slice y0.A y0.n y0.c) ∧ X3.cell? ⟨b, off + j * 2 + 1, none⟩ = some (.int .i64 y0.m) := ⟨(hB3.cell (World.block_lt_of_cell? _ _ hS.1)).trans hS.1, (hB3.cell (World.block_lt_of_cell? _ _ hS.2)).trans hS.2⟩
            refine hK _ _ (fun _ => hS3) ?_
            try simp only [Act.put]
            have hBf := hBw.trans ((bstep hD2 hB3).mono hBw.size)
            clear hK K hS hB3 hD2 hBw hbg hrow
            refine Held.one (i := 14) rfl (by kernel_rfl) rfl (fun K hK => ?_)
            unfold Oper.wp
            go_simp
            refine hK _ _ (fun _ => hS3) ?_
            try simp only [Act.put]
            clear hK K hS3
            refine Held.done (by kernel_rfl) ?_
            go_wp2
            go_roundw
            case rel => exact ⟨j + 1, _, _, _, l2', by omega, by go_num, rfl, hb2, hc2, by rw [HN.out]; exact hd2, hBf⟩
            case measure => simp [intOf] <;> omega
          · obtain rfl : j = n := by omega
            rw [take_all HXL.out] at hdl
            have HDL := hide hdl
            have hB0 := bstep HB1.out hBw
            clear hdl hBw
            go_wp2_with fail
            refine (told_any A2 n2 c2 _ l2 wr hbg (Nat.le_refl _) hcp).mono ?_
            intro e W4 h
            rw [HDL.out] at h
            obtain ⟨A5, n5, c5, l5, rfl, r2, r3, r4, r5⟩ := told_ret' hB0 h
            have HE := hide r5
            clear r5 h hB0
            go_wp2
            go_ret2
            rw [HQ.out]
            exact ⟨A5, n5, c5, l5, rfl, r2, r3, r4, HE.out⟩
      · have q8 : (8 : Int) < (k : Int) := by omega
        have hl8 : ¬ cols.length ≤ 8 := by rw [HLC.out]; exact h8
        have HQ := hide (show p = ([], 4) by rw [← HP.out]; unfold pjB; rw [OA.out, HNB.out]; simp only [if_true]; rw [if_neg (by decide), if_neg hl8])
        have HE := hide (bstep HB1.out hBw)
        clear hBw hl8 h8
        go_wp2
        go_ret2
        rw [HQ.out]
        exact ⟨none, 0, 0, [], rfl, rfl, BagR.nil _ _, Nat.le_refl _, HE.out⟩
end Go.Proofs.YtiioiajcoiaalaaGreatDoor
