/-
  The reference's either, Meet, Join, Within and Distinct.
-/
import Derived.Test.YtiioiajcoiaalaaGreatDoorLatA
namespace Go.Proofs.YtiioiajcoiaalaaGreatDoor
open Go.RowKit
attribute [local go_sem] Oper.semAt_some
set_option linter.unusedVariables false
set_option linter.unusedSimpArgs false

/-- The greater or the lesser of two. -/
def fE (g : Bool) (m k : Int) : Int := if g then max m k else min m k
theorem fE_zero (g : Bool) : fE g 0 0 = 0 := by cases g <;> rfl
theorem fE_bound (g : Bool) {m k : Int} (h1 : -1000000 ≤ m ∧ m ≤ 1000000) (h2 : -1000000 ≤ k ∧ k ≤ 1000000) : -1000000 ≤ fE g m k ∧ fE g m k ≤ 1000000 := by
  cases g <;> simp only [fE] <;> simp <;> omega
theorem fE_max {m k : Int} : fE true m k = if m < k then k else m := by
  simp only [fE]
  simp
  split <;> omega
theorem fE_min {m k : Int} : fE false m k = if k < m then k else m := by
  simp only [fE]
  simp
  split <;> omega
theorem eith_len {f : Int → Int → Int} {a b : Bg} (ha : okBag a = true) (hb : okBag b = true) : ∀ k, k ≤ (eithX f a b).length → (aftB [] ((eithX f a b).take k)).length ≤ k
  | 0, _ => by simp [aftB]
  | k + 1, hk => by
    have ih := eith_len (f := f) ha hb k (by omega)
    have h1 : (eithX f a b)[k]? = some ((eithX f a b)[k]'(by omega)) := List.getElem?_eq_getElem (by omega)
    rw [take_snoc' h1, aft_snoc]
    have := put_len (eith_net (f := f) ha hb k).asc ((eithX f a b)[k]'(by omega)).1 ((eithX f a b)[k]'(by omega)).2
    omega
theorem eithX_len (f : Int → Int → Int) (a b : Bg) : (eithX f a b).length = (rws a b).length := by simp [eithX]
theorem eithX_at {f : Int → Int → Int} {a b : Bg} {k : Nat} {r : Rw} (h : (rws a b)[k]? = some r) : (eithX f a b)[k]? = some (r, f (look a r) (look b r)) := by unfold eithX; rw [List.getElem?_map, h]; rfl
theorem eith_num {g : Bool} {a b : Bg} (ha : okBag a = true) (hb : okBag b = true) (k : Nat) : ∀ x ∈ aftB [] ((eithX (fE g) a b).take k), -4000000000000 ≤ x.2 ∧ x.2 ≤ 4000000000000 := by
  intro x hx
  have hn := eith_net (f := fE g) ha hb k
  have h1 := sum_abs (xs := (eithX (fE g) a b).take k) (fun z hz => by
    obtain ⟨r, hr, rfl⟩ := List.mem_map.1 (List.mem_of_mem_take hz)
    exact fE_bound g (look_bound (okBag_asc ha).2.1 r) (look_bound (okBag_asc hb).2.1 r)) x.1
  rw [← hn.sum, look_in (asc_apart hn.asc) hx] at h1
  have h2 : ((eithX (fE g) a b).take k).length ≤ 800 := by
    rw [List.length_take, eithX_len]
    have := rws_len ha hb
    omega
  omega
set_option maxRecDepth 100000 in
set_option maxHeartbeats 4000000 in
theorem REither_any (A1 : Option Addr) (n1 c1 : Nat) (la : List It) (A2 : Option Addr) (n2 c2 : Nat) (lb : List It) (g : Bool) (w : World) (ha : BagR w w.heap.size A1 n1 la) (hb : BagR w w.heap.size A2 n2 lb) :
    Calls Tryz.prog 68 #[.slice A1 n1 c1, .slice A2 n2 c2, .bool g] w (RetC w (comb (fE g) (dat la) (dat lb))) := by
  obtain ⟨p, hp⟩ : ∃ p, comb (fE g) (dat la) (dat lb) = p := ⟨_, rfl⟩
  rw [hp]
  have HP := hide hp
  clear hp
  go_enter Tryz.func68, Tryz.ntmps68
  go_wp2_with fail
  refine (R3Valid_any A1 n1 c1 _ la w ha).mono ?_
  rintro e W1 ⟨rfl, hB1⟩
  cases oa : okBag (dat la)
  · have HQ := hide (show p = ([], 1) by rw [← HP.out]; unfold comb; rw [oa]; rfl)
    clear oa
    go_wp2
    go_ret2
    rw [HQ.out]
    exact ⟨none, 0, 0, [], rfl, rfl, BagR.nil _ _, Nat.le_refl _, hB1⟩
  have OA := hide oa
  clear oa
  go_wp2_with fail
  refine (R3Valid_any A2 n2 c2 _ lb W1 (hb.below hB1)).mono ?_
  rintro e W2 ⟨rfl, hB2⟩
  have hB02 := bstep hB1 hB2
  clear hB1 hB2
  cases ob : okBag (dat lb)
  · have HQ := hide (show p = ([], 1) by rw [← HP.out]; unfold comb; rw [OA.out, ob]; rfl)
    clear ob
    go_wp2
    go_ret2
    rw [HQ.out]
    exact ⟨none, 0, 0, [], rfl, rfl, BagR.nil _ _, Nat.le_refl _, hB02⟩
  have OB := hide ob
  have HQ := hide (show p = toldB (aftB [] (eithX (fE g) (dat la) (dat lb))) by
    rw [← HP.out, eith_eq (fE_zero g) OA.out ob]
    unfold comb toldB
    rw [OA.out, ob]
    rfl)
  clear ob
  go_wp2_with fail
  refine (RRows2_any A1 n1 c1 la A2 n2 c2 lb W2 ((ha.below hB02).mono hB02.size) ((hb.below hB02).mono hB02.size) OA.out OB.out).mono ?_
  rintro e W3 ⟨A3, n3, c3, l3, rfl, hd3, hr3, hB3⟩
  have hB03 := bstep hB02 hB3
  have HD3 := hide hd3
  have HL3 := hide hr3.len
  have hn3 : n3 ≤ 800 := by have := rws_len OA.out OB.out; rw [← hd3, rwD_len, hr3.len] at this; exact this
  have hXL := hide (show (eithX (fE g) (dat la) (dat lb)).length = n3 by rw [eithX_len, ← hd3, rwD_len, hr3.len])
  have ha3 := (ha.below hB03).mono hB03.size
  have hb3 := (hb.below hB03).mono hB03.size
  have HB03 := hide hB03
  clear hB02 hB3 hd3 ha hb hB03
  go_wp2_with fail
  go_loopw [8, 10] (fun v i wr => ∃ (k : Nat) (A : Option Addr) (n c : Nat) (l : List It), k ≤ n3 ∧ i = .int .i64 k ∧ .slice A n c = v ∧ BagR wr wr.heap.size A n l ∧ n ≤ c ∧ dat l = aftB [] ((eithX (fE g) (dat la) (dat lb)).take k) ∧ Below W3.heap.size W3 wr) (fun _ i _ => n3 - (intOf i).toNat)
  case atStart => exact ⟨0, none, 0, 0, [], Nat.zero_le _, rfl, rfl, BagR.nil _ _, Nat.le_refl _, rfl, Below.refl _ _⟩
  case round =>
    obtain ⟨k, A, n, c, l, hk, rfl, rfl, hbg, hcp, hdl, hBw⟩ := hrel
    by_cases hlt : k < n3
    · obtain ⟨b, off, y, rfl, hbl, hyk, e0, hy⟩ := (hr3.below hBw).at_ hlt
      have hyd : (rws (dat la) (dat lb))[k]? = some y.r := by rw [← HD3.out]; exact rwD_at hyk
      have hyx := eithX_at (f := fE g) hyd
      have hyr := rws_ok OA.out OB.out _ (List.mem_of_getElem? hyd)
      have hy8 : y.n ≤ 1000 := by have h1 := okR_len hyr; have h2 := hy.len; omega
      obtain ⟨ma, hma⟩ : ∃ m, look (dat la) y.r = m := ⟨_, rfl⟩
      obtain ⟨mb, hmb⟩ : ∃ m, look (dat lb) y.r = m := ⟨_, rfl⟩
      rw [hma, hmb] at hyx
      have bma : -1000000 ≤ ma ∧ ma ≤ 1000000 := by rw [← hma]; exact look_bound (okBag_asc OA.out).2.1 y.r
      have bmb : -1000000 ≤ mb ∧ mb ≤ 1000000 := by rw [← hmb]; exact look_bound (okBag_asc OB.out).2.1 y.r
      have HN := hide (show aftB [] ((eithX (fE g) (dat la) (dat lb)).take (k + 1)) = putB (dat l) y.r (fE g ma mb) from by rw [take_snoc' hyx, aft_snoc, hdl])
      have hnl : n ≤ 2000 := by
        have := eith_len (f := fE g) OA.out OB.out k (by rw [hXL.out]; exact hk)
        rw [← hdl, dat_len, hbg.len] at this
        omega
      have HR := hide (show ∀ z ∈ dat l, z.1.length ≤ 1000 from fun z hz => by
        rw [hdl] at hz
        have h1 := okR_len ((eith_net (f := fE g) OA.out OB.out k).asc.ok z hz)
        omega)
      have HM := hide (show ∀ z ∈ dat l, -4000000000000 ≤ z.2 ∧ z.2 ≤ 4000000000000 from fun z hz => by rw [hdl] at hz; exact eith_num OA.out OB.out k z hz)
      have C1 := hide (fun (p : BW wr) => calls_bw (p := p) (v := .int .i64 ma) (by rw [← hma]; exact RN_any A1 n1 c1 W3.heap.size la y.A y.n y.c y.r p.x (ha3.below (bstep hBw p.h)) ((hy.below p.h).mono (Nat.le_trans hBw.size p.h.size)) OA.out hyr))
      have C2 := hide (fun (p : BW wr) => calls_bw (p := p) (v := .int .i64 mb) (by rw [← hmb]; exact RN_any A2 n2 c2 W3.heap.size lb y.A y.n y.c y.r p.x (hb3.below (bstep hBw p.h)) ((hy.below p.h).mono (Nat.le_trans hBw.size p.h.size)) OB.out hyr))
      have y0 := fun (p : BW wr) => BW.cell (a := ⟨b, off + k, none⟩) hbl e0 p
      have q1 : (0 : Int) ≤ (k : Int) := by omega
      have q2 : (k : Int) < (n3 : Int) := by omega
      clear hyd hyx hyr hdl hma hmb hyk
      go_wp2_with fail
      (refine wp_region_quiet_bw (by kernel_rfl) (by kernel_rfl) ?_
       repeat (first | go_big_quiet_step ((first | (go_at_call 65; with_reducible exact C1.out _) | (go_at_call 65; with_reducible exact C2.out _))) | quiet_step ((first | (go_at_call 65; with_reducible exact C1.out _) | (go_at_call 65; with_reducible exact C2.out _))))
       refine wpQuiet_nil ?_
       intro wq hw'
       obtain ⟨⟨_, hbq⟩, hw''⟩ := hw'
       subst hw'')
      have x0 : wq.cell? ⟨b, off + k, none⟩ = some (.slice y.A y.n y.c) := (hbq.cell (p := ⟨b, off + k, none⟩) hbl).trans e0
      have hyq : RowK wq wq.heap.size y.A y.n y.r := (hy.below hbq).mono (Nat.le_trans hBw.size hbq.size)
      have hbgq : BagR wq wq.heap.size A n l := (hbg.below hbq).mono hbq.size
      have hBq := hBw.trans (hbq.mono hBw.size)
      clear C1 C2 y0 e0 hy hbg hBw hbq
      cases g
      · have HP2 := hide (RPut_any A n c l y.A y.n y.c y.r (min ma mb) wq hbgq hnl hyq hy8 HR.out HM.out (by omega))
        have HN2 := hide (show aftB [] ((eithX (fE false) (dat la) (dat lb)).take (k + 1)) = putB (dat l) y.r (min ma mb) by rw [HN.out]; rfl)
        clear hbgq hyq HN
        go_wp2_with fail
        refine HP2.out.mono ?_
        rintro e X2 ⟨A2', n2', c2', l2', rfl, hd2, hb2, hc2, hB2⟩
        have hBf := hBq.trans (hB2.mono hBq.size)
        clear hBq hB2 x0 HP2
        go_wp2
        go_roundw
        case rel => exact ⟨k + 1, _, _, _, l2', by omega, by go_num, rfl, hb2, hc2, by rw [HN2.out]; exact hd2, hBf⟩
        case measure => simp [intOf] <;> omega
      · have HP2 := hide (RPut_any A n c l y.A y.n y.c y.r (max ma mb) wq hbgq hnl hyq hy8 HR.out HM.out (by omega))
        have HN2 := hide (show aftB [] ((eithX (fE true) (dat la) (dat lb)).take (k + 1)) = putB (dat l) y.r (max ma mb) by rw [HN.out]; rfl)
        clear hbgq hyq HN
        go_wp2_with fail
        refine HP2.out.mono ?_
        rintro e X2 ⟨A2', n2', c2', l2', rfl, hd2, hb2, hc2, hB2⟩
        have hBf := hBq.trans (hB2.mono hBq.size)
        clear hBq hB2 x0 HP2
        go_wp2
        go_roundw
        case rel => exact ⟨k + 1, _, _, _, l2', by omega, by go_num, rfl, hb2, hc2, by rw [HN2.out]; exact hd2, hBf⟩
        case measure => simp [intOf] <;> omega
    · obtain rfl : k = n3 := by omega
      rw [take_all hXL.out] at hdl
      have HDL := hide hdl
      have hB0 := bstep HB03.out hBw
      clear hdl hBw
      go_wp2_with fail
      refine (told_any A n c _ l wr hbg (Nat.le_refl _) hcp).mono ?_
      intro e W4 h
      rw [HDL.out] at h
      obtain ⟨A5, n5, c5, l5, rfl, r2, r3, r4, r5⟩ := told_ret' hB0 h
      have HE := hide r5
      clear r5 h hB0
      go_wp2
      go_ret2
      rw [HQ.out]
      exact ⟨A5, n5, c5, l5, rfl, r2, r3, r4, HE.out⟩
theorem RMeet_any (A1 : Option Addr) (n1 c1 : Nat) (la : List It) (A2 : Option Addr) (n2 c2 : Nat) (lb : List It) (w : World) (ha : BagR w w.heap.size A1 n1 la) (hb : BagR w w.heap.size A2 n2 lb) :
    Calls Tryz.prog 23 #[.slice A1 n1 c1, .slice A2 n2 c2] w (RetC w (comb (fE false) (dat la) (dat lb))) := by
  have H := hide (REither_any A1 n1 c1 la A2 n2 c2 lb false w ha hb)
  obtain ⟨d, E, hp⟩ : ∃ d E, comb (fE false) (dat la) (dat lb) = (d, E) := ⟨_, _, rfl⟩
  rw [hp] at H ⊢
  clear hp ha hb
  go_enter Tryz.func23, Tryz.ntmps23
  go_wp2_with fail
  refine H.out.mono ?_
  rintro e W1 ⟨Ar, nr, cr, lr, rfl, hd, hbr, hcr, hB⟩
  go_wp2
  go_ret2
  exact ⟨Ar, nr, cr, lr, rfl, hd, hbr, hcr, hB⟩
theorem RJoin_any (A1 : Option Addr) (n1 c1 : Nat) (la : List It) (A2 : Option Addr) (n2 c2 : Nat) (lb : List It) (w : World) (ha : BagR w w.heap.size A1 n1 la) (hb : BagR w w.heap.size A2 n2 lb) :
    Calls Tryz.prog 25 #[.slice A1 n1 c1, .slice A2 n2 c2] w (RetC w (comb (fE true) (dat la) (dat lb))) := by
  have H := hide (REither_any A1 n1 c1 la A2 n2 c2 lb true w ha hb)
  obtain ⟨d, E, hp⟩ : ∃ d E, comb (fE true) (dat la) (dat lb) = (d, E) := ⟨_, _, rfl⟩
  rw [hp] at H ⊢
  clear hp ha hb
  go_enter Tryz.func25, Tryz.ntmps25
  go_wp2_with fail
  refine H.out.mono ?_
  rintro e W1 ⟨Ar, nr, cr, lr, rfl, hd, hbr, hcr, hB⟩
  go_wp2
  go_ret2
  exact ⟨Ar, nr, cr, lr, rfl, hd, hbr, hcr, hB⟩
set_option maxRecDepth 100000 in
set_option maxHeartbeats 4000000 in
theorem RWithin_any (A1 : Option Addr) (n1 c1 : Nat) (la : List It) (A2 : Option Addr) (n2 c2 : Nat) (lb : List It) (w : World) (ha : BagR w w.heap.size A1 n1 la) (hb : BagR w w.heap.size A2 n2 lb) :
    Calls Tryz.prog 21 #[.slice A1 n1 c1, .slice A2 n2 c2] w (RetV w (.bool (leB (dat la) (dat lb)))) := by
  obtain ⟨p, hp⟩ : ∃ p, leB (dat la) (dat lb) = p := ⟨_, rfl⟩
  rw [hp]
  have HP := hide hp
  clear hp
  go_enter Tryz.func21, Tryz.ntmps21
  go_wp2_with fail
  refine (R3Valid_any A1 n1 c1 _ la w ha).mono ?_
  rintro e W1 ⟨rfl, hB1⟩
  cases oa : okBag (dat la)
  · have HQ := hide (show p = false by rw [← HP.out]; unfold leB; rw [oa]; rfl)
    clear oa
    go_wp2
    go_ret
    exact ⟨ret_bool HQ.out.symm, hB1⟩
  have OA := hide oa
  clear oa
  go_wp2_with fail
  refine (R3Valid_any A2 n2 c2 _ lb W1 (hb.below hB1)).mono ?_
  rintro e W2 ⟨rfl, hB2⟩
  have hB02 := bstep hB1 hB2
  clear hB1 hB2
  cases ob : okBag (dat lb)
  · have HQ := hide (show p = false by rw [← HP.out]; unfold leB; rw [OA.out, ob]; rfl)
    clear ob
    go_wp2
    go_ret
    exact ⟨ret_bool HQ.out.symm, hB02⟩
  have OB := hide ob
  have HQ := hide (show p = (rws (dat la) (dat lb)).all fun r => decide (look (dat la) r ≤ look (dat lb) r) by
    rw [← HP.out]
    unfold leB
    rw [OA.out, ob]
    rfl)
  clear ob
  go_wp2_with fail
  refine (RRows2_any A1 n1 c1 la A2 n2 c2 lb W2 ((ha.below hB02).mono hB02.size) ((hb.below hB02).mono hB02.size) OA.out OB.out).mono ?_
  rintro e W3 ⟨A3, n3, c3, l3, rfl, hd3, hr3, hB3⟩
  have hB03 := bstep hB02 hB3
  have HD3 := hide hd3
  have HL3 := hide hr3.len
  have hn3 : n3 ≤ 800 := by have := rws_len OA.out OB.out; rw [← hd3, rwD_len, hr3.len] at this; exact this
  have hXL := hide (show (rws (dat la) (dat lb)).length = n3 by rw [← hd3, rwD_len, hr3.len])
  have ha3 := (ha.below hB03).mono hB03.size
  have hb3 := (hb.below hB03).mono hB03.size
  have HB03 := hide hB03
  clear hB02 hB3 hd3 ha hb hB03
  go_wp2_with fail
  go_loopw [6] (fun i wr => ∃ k : Nat, k ≤ n3 ∧ i = .int .i64 k ∧ ((rws (dat la) (dat lb)).take k).all (fun r => decide (look (dat la) r ≤ look (dat lb) r)) = true ∧ Below W3.heap.size W3 wr) (fun i _ => n3 - (intOf i).toNat)
  case atStart => exact ⟨0, Nat.zero_le _, rfl, rfl, Below.refl _ _⟩
  case round =>
    obtain ⟨k, hk, rfl, hal, hBw⟩ := hrel
    have HAL := hide hal
    clear hal
    by_cases hlt : k < n3
    · obtain ⟨b, off, y, rfl, hbl, hyk, e0, hy⟩ := (hr3.below hBw).at_ hlt
      have hyd : (rws (dat la) (dat lb))[k]? = some y.r := by rw [← HD3.out]; exact rwD_at hyk
      have hyr := rws_ok OA.out OB.out _ (List.mem_of_getElem? hyd)
      obtain ⟨ma, hma⟩ : ∃ m, look (dat la) y.r = m := ⟨_, rfl⟩
      obtain ⟨mb, hmb⟩ : ∃ m, look (dat lb) y.r = m := ⟨_, rfl⟩
      have HYD := hide hyd
      have HMA := hide hma
      have HMB := hide hmb
      have C1 := hide (fun (p : BW wr) => calls_bw (p := p) (v := .int .i64 ma) (by rw [← hma]; exact RN_any A1 n1 c1 W3.heap.size la y.A y.n y.c y.r p.x (ha3.below (bstep hBw p.h)) ((hy.below p.h).mono (Nat.le_trans hBw.size p.h.size)) OA.out hyr))
      have C2 := hide (fun (p : BW wr) => calls_bw (p := p) (v := .int .i64 mb) (by rw [← hmb]; exact RN_any A2 n2 c2 W3.heap.size lb y.A y.n y.c y.r p.x (hb3.below (bstep hBw p.h)) ((hy.below p.h).mono (Nat.le_trans hBw.size p.h.size)) OB.out hyr))
      have y0 := fun (p : BW wr) => BW.cell (a := ⟨b, off + k, none⟩) hbl e0 p
      have q1 : (0 : Int) ≤ (k : Int) := by omega
      have q2 : (k : Int) < (n3 : Int) := by omega
      clear hyd hyr hma hmb hyk
      by_cases hl : mb < ma
      · have z : decide (mb < ma) = true := by simpa using hl
        have HX := hide (show p = false by
          rw [HQ.out, List.all_eq_false]
          exact ⟨y.r, List.mem_of_getElem? HYD.out, by rw [HMA.out, HMB.out]; simp; omega⟩)
        clear hl
        go_wp2_with fail
        (refine wp_region_quiet_bw (by kernel_rfl) (by kernel_rfl) ?_
         repeat (first | go_big_quiet_step ((first | (go_at_call 65; with_reducible exact C1.out _) | (go_at_call 65; with_reducible exact C2.out _))) | quiet_step ((first | (go_at_call 65; with_reducible exact C1.out _) | (go_at_call 65; with_reducible exact C2.out _))))
         refine wpQuiet_nil ?_
         intro wq hw'
         obtain ⟨⟨_, hbq⟩, hw''⟩ := hw'
         subst hw'')
        have HE := hide (bstep HB03.out (hBw.trans (hbq.mono hBw.size)))
        clear C1 C2 y0 e0 hy hBw hbq
        go_wp2
        go_ret
        exact ⟨ret_bool HX.out.symm, HE.out⟩
      · have z : decide (mb < ma) = false := by simpa using hl
        have HX := hide (show ((rws (dat la) (dat lb)).take (k + 1)).all (fun r => decide (look (dat la) r ≤ look (dat lb) r)) = true by
          rw [take_snoc' HYD.out, List.all_append, HAL.out]
          simp only [List.all_cons, List.all_nil]
          rw [HMA.out, HMB.out]
          simp
          omega)
        clear hl
        go_wp2_with fail
        (refine wp_region_quiet_bw (by kernel_rfl) (by kernel_rfl) ?_
         repeat (first | go_big_quiet_step ((first | (go_at_call 65; with_reducible exact C1.out _) | (go_at_call 65; with_reducible exact C2.out _))) | quiet_step ((first | (go_at_call 65; with_reducible exact C1.out _) | (go_at_call 65; with_reducible exact C2.out _))))
         refine wpQuiet_nil ?_
         intro wq hw'
         obtain ⟨⟨_, hbq⟩, hw''⟩ := hw'
         subst hw'')
        have hBf := hBw.trans (hbq.mono hBw.size)
        clear C1 C2 y0 e0 hy hBw hbq
        go_wp2
        go_roundw
        case rel => exact ⟨k + 1, by omega, by go_num, HX.out, hBf⟩
        case measure => simp [intOf] <;> omega
    · obtain rfl : k = n3 := by omega
      have HX := hide (show p = true by have := HAL.out; rw [take_all hXL.out] at this; rw [HQ.out]; exact this)
      have HE := hide (bstep HB03.out hBw)
      clear hBw
      go_wp2
      go_ret
      exact ⟨ret_bool HX.out.symm, HE.out⟩
end Go.Proofs.YtiioiajcoiaalaaGreatDoor
